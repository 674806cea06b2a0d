/-
  The machine: regions, code, calls. Definitions alone.
-/
import Derived.Test.YtijdnecnjenleaaGreatDoorMiC
set_option linter.all false
namespace Go.Mi
open Go.RowKit
open Go.Ev (AV Sh Summ Env Ex nilB VRel VRels Kept Glb isAggT placeOf partsKnown fieldOf evBin shOf depth roomB lenB inb slb decA minInt maxInt)
variable{t:TypeId}{x:Operand}{e:TypeId}{cs:List a8}{n:Int}{args:Array Operand}{ae:Array TypeId}{b':TypeId}{s:List UInt8}{u:Value}{aj:Type}{off cap wd len:Nat}{k:IntKind}{us:List Value}{hi:Option Operand}{c:Nat}{i:TypeInfo}{src dst:TypeId}{lo:Option Operand}{l:Int}{q:List a8×List Nat}{z:Operand}{b:Bool}{mx:Option Operand}{es:List (a8×a8×Nat)}{rs:List Nat}{parts:Array (Nat×Operand)}{res:Option (Nat×a8×Nat)}
section ops
variable{aj:Type}{P:Program}{B:Nat->Prop}{w0 w:World}{df:List Deferred}{ax:du}{st:dG}{a:Act}{o:Oper}{nid:Nat}{y:jG->Option aj}{r:aj}
theorem ck.eM{ax:du}{ds:List a8}{vs:List Value}(h:ck ax cs vs)(h':ck ax ds us)(off:Nat):ck ax (eM cs off ds) (vs.take off++us++vs.drop (off+us.length)):=by unfold Go.Mi.eM;rw[h'.1];exact((h.take off).append h').append (h.drop _)
theorem Io{vs:List Value}(af:∀u∈vs,u.oneCell'=true)(ao:∀u∈us,u.oneCell'=true):∀x∈vs.take off++us++vs.drop (off+us.length),x.oneCell'=true:=bM
theorem xG{ax:du}{place place':Nat->Option (Nat×Nat)}(B2:∀i p,place i=some p->place' i=some p):
  ∀(parts:List (Nat×a8))(nI:List (Nat×Value))(cs ea:List a8)(vs:List Value),ud place cs parts=some ea->parts.map (·.1)=nI.map (·.1)->ck ax (parts.map (·.2)) (nI.map (·.2))->
   ck ax cs vs->(∀u∈vs,u.oneCell'=true)->∃fr,Instr.fill place' vs.toArray nI=some fr.toArray/\ck ax ea fr/\∀u∈fr,u.oneCell'=true
 |[],[],cs,ea,vs,h,_,_,ar,af=>by simp[ud]at h;subst h;exact⟨vs,rfl,ar,af⟩
 |[],_::_,_,_,_,_,hm,_,_,_=>Bq
 |_::_,[],_,_,_,_,hm,_,_,_=>Bq
 |(i,v)::parts,(fG,u)::nI,cs,ea,vs,h,hm,au,ar,af=>by
  simp only[iZ,jY]at hm;obtain⟨iF,nJ⟩:=hm;subst iF;simp only[iZ]at au;obtain⟨rb,lb,he,jt,zE⟩:=au.inv;simp only[jY]at he;obtain⟨rfl,rfl⟩:=he;simp only[ud]at h;cases zF:place i with
  |none=>simp[zF]at h
  |some p=>
   simp only[zF]at h;split at h
   .rename_i aa;simp only[ba,h0]at aa;obtain⟨pJ,hlen,hle⟩:=aa;have p8:p.1+v.cells.length<=cs.length:=kA hle;obtain⟨us,o2,e6,lf⟩:=jt.laid pJ;have jP:us.length=p.2:=by rw[e6.1];exact hlen
    have gA:=ar.eM e6 p.1;obtain⟨fr,aR,jN,Iq⟩:=xG B2 parts nI _ ea _ h nJ zE gA (Io af lf);refine⟨fr,?_,jN,Iq⟩;have N2:=Go.Ev.Ip p.1 us 0 vs.toArray G0;simp only[lX]at N2;obtain⟨cF,d'⟩:=p;simp only[Instr.fill,B2 i _ zF,o2];have cx:us.toArray.size=d':=by simpa using jP
    have agV:¬(cF+us.toArray.size>vs.toArray.size):=G0;grind
   .cases h
def aeI(ah:bU B w0 w df ax st a)(parts:Array (Nat×Operand)):ck ax ((parts.toList.map λp=>(p.1,bG st.tm p.2)).map (·.2)) ((parts.toList.map λp=>(p.1,a.eval p.2)).map (·.2)):=by
 refine⟨bb,λj c u aa hu=>?_⟩;simp only[p4,k0]at aa hu;cases aP:parts.toList[j]?with
 |none=>simp[aP]at aa
 |some p=>simp[aP]at aa hu;subst aa;subst hu;exact e0 ah.tm _
theorem aeJ(a:Act)(parts:Array (Nat×Operand)):(parts.map λp=>(p.1,a.eval p.2))=(parts.toList.map λp=>(p.1,a.eval p.2)).toArray:=ml
theorem N3(ah:bU B w0 w df ax st a){ea:List a8}(aw:o.op=.build t parts)(bp:rN P t=some cs)(ai:partsKnown P t=true)
  (aR:ud (placeOf P t) cs (parts.toList.map λp=>(p.1,bG st.tm p.2))=some ea):ez P B w0 w df ax st a o nid {v:=.agg ea}:=by
 obtain⟨i,v,us,hi,ar,aa,b6,af⟩:=Sf (ax:=ax) bp
 have EJ:=aeI ah parts
 have pw:=aeJ a parts
 unfold partsKnown at ai
 split at ai
 .rename_i aC nC;obtain⟨fr,vU,kc,kM⟩:=xG (place:=placeOf P t) (place':=λx=>Option.map (λf=>(f.offset,P.cellsOf f.type)) aC[x]?) (λi p au=>by simp only[placeOf,nC]at au;exact au) _ _ _ ea us aR bb EJ b6 af;refine calm ah (.agg _ _ kc.1 kM kc.2) ?_;simp_all[run_places,Go.Ev.Ve,execOp,Instr.build,zeroValue,typeInfo,cA,LU]
 .rename_i n e he;obtain⟨ii,iF⟩:=mj.1 ai;obtain⟨fr,vU,kc,kM⟩:=xG (place:=placeOf P t) (place':=λx=>some (x*ii.size,ii.size)) (λi p au=>by grind[placeOf,Program.cellsOf]) _ _ _ ea us aR bb EJ b6 af;refine calm ah (.agg _ _ kc.1 kM kc.2) ?_;simp_all[execOp,Instr.build,zeroValue,sizeOf,typeInfo,cA]
 .cases ai
theorem Dv(h:p1 P e=true):∃i z hS,P.info? e=some i/\i.zero=some z/\0<i.size/\z.cells.size=i.size/\i.bytes=P.bytesOf e/\i.size=P.cellsOf e/\rN P e=some hS:=by
 unfold p1 at h;cases hi:P.info? e with
 |none=>simp[hi]at h
 |some i=>
  simp only[hi,ba]at h;obtain⟨af,ao,a1⟩:=h;cases bp:i.zero with
  |none=>simp[bp]at ao
  |some z=>simp only[bp,h0]at ao;obtain⟨hS,nG⟩:=mj.1 a1;grind[Nat.blt_eq,Program.bytesOf,Program.cellsOf]
def Sg{e:TypeId}{hS:List a8}(bp:rN P e=some hS):∀n:Nat,sU P e n=some (List.replicate n hS).flatten
 |0=>rfl
 |n+1=>by simp[sU,bp,Sg bp n,yC]
def ck.rep{ax:du}{cs:List a8}{vs:List Value}(h:ck ax cs vs):∀len:Nat,ck ax (List.replicate len cs).flatten (List.replicate len vs).flatten
 |0=>by simpa using ck.nil
 |len+1=>by rw[yC,yC,yD,yD];exact h.append (ck.rep h len)
def Gy{dz:Value}{hS:List a8}(hi:P.info? e=some i)(fJ:i.zero=some dz)(hq:dz.cells.size=i.size)(dJ:0<i.size)(jO:rN P e=some hS)(ax:du)(k:Nat)(aa:sU P e k=some cs):
  ck ax cs (Builtin.zeroCells dz.cells k).toList/\(∀u∈(Builtin.zeroCells dz.cells k).toList,u.oneCell'=true)/\cs.length=k*i.size:=by
 obtain⟨fG,v,dL,eC,ar,ED,zz,mT⟩:=Sf (ax:=ax) jO
 rw[hi]at eC
 cases eC
 rw[fJ]at ar
 cases ar
 rw[Sg jO]at aa
 cases aa
 have j':dL.length=i.size:=by rw[<-hq,ED];simp
 have Ij:(Builtin.zeroCells dz.cells k).toList=(List.replicate k dL).flatten:=by
  have aD:=Go.Ev.Ih dL (default:Value) i.size j' dJ k;rw[<-aD];unfold Builtin.zeroCells;rw[ED];simp only[A3,j',LP,LQ];apply p5;intro j _;have aL:j%i.size<dL.length:=by rw[j'];exact Nat.mod_lt _ dJ
  simp[List.getD,fC aL,getElem!_pos dL.toArray (j%i.size) DQ]
 refine⟨by rw[Ij];exact zz.rep k,?_,?_⟩
 .intro u hu;rw[Ij]at hu;obtain⟨l,ay,jP⟩:=List.mem_flatten.1 hu;rw[(DB.1 ay).2]at jP;exact mT u jP
 .have:(List.replicate k hS).flatten.length=k*hS.length:=bb;rw[this,<-zz.1,j']
def aeK(ah:bU B w0 w df ax st a)(aJ:ax nid=none)(aL:nid<st.nx){fz:Nat×Nat}{w':World}{n k9:Nat}(ag:Below w.heap.size w w')(rl:w.heap.size<w'.heap.size)(aB:w'.heap[w.heap.size]?=some (.cells us.toArray t fz))
  (gV:fz=(0,0)\/fz=(us.length,us.length+1))(ar:ck ax cs (us.take cs.length))(hle:cs.length<=us.length)(af:∀u∈us,u.oneCell'=true)(hU:n<=k9)(vR:k9<=cap)(hm:cap<=maxLen)(Si:cap*wd<=us.length)(hw:0<wd)
  (bu:(execOp a.eval o).run P w=.ok (.value (.slice (some ⟨w.heap.size,0,none⟩) n cap)) w'):ez P B w0 w df ax st a o nid {v:=.bA nid 0 n k9 wd,reads:=rs,dv:=[(nid,some (.cells false cs))]}:=by
 refine⟨_,_,jI ax nid ⟨w.heap.size,0,us.length⟩,.inl bu,su _ aJ,λi hi=>qA _ _ hi,?_,?_⟩
 .exact .bA nid 0 n k9 wd ⟨w.heap.size,0,us.length⟩ 0 cap (tH _ _ _) hU vR hm (λ_=>rfl) (dc _) (by simpa using Si) hw
 .refine ah.new aJ aL ag (dc _) rl ⟨us,t,fz,aB,rfl,λ_=>gV,by simpa using hle,af,?_⟩;simpa using ar.mono (su _ aJ)
def Sj(ah:bU B w0 w df ax st a)(aJ:ax nid=none)(aL:nid<st.nx){fz:Nat×Nat}{w':World}{n:Nat}(ag:Below w.heap.size w w')(rl:w.heap.size<w'.heap.size)(aB:w'.heap[w.heap.size]?=some (.cells us.toArray t fz))
  (gV:fz=(0,0)\/fz=(us.length,us.length+1))(ar:ck ax cs (us.take cs.length))(hle:cs.length<=us.length)(af:∀u∈us,u.oneCell'=true)(vR:n<=cap)(hm:cap<=maxLen)(Si:cap*wd<=us.length)(hw:0<wd)
  (bu:(execOp a.eval o).run P w=.ok (.value (.slice (some ⟨w.heap.size,0,none⟩) n cap)) w'):ez P B w0 w df ax st a o nid {v:=.bA nid 0 n n wd,reads:=rs,dv:=[(nid,some (.cells false cs))]}:=
 aeK ah aJ aL ag rl aB gV ar hle af (dc n) vR hm Si hw bu
def aeL{place:Nat->Option (Nat×Nat)}:∀(parts:List (Nat×a8))(cs ea:List a8),ud place cs parts=some ea->ea.length=cs.length
 |[],cs,ea,h=>by simp[ud]at h;rw[h]
 |(i,v)::parts,cs,ea,h=>by
  simp only[ud]at h;split at h
  .cases h
  .rename_i p au;split at h
   .rename_i aa;simp only[ba,h0]at aa;have hle:=kA aa.2.2;rw[aeL parts _ ea h];simp[Go.Mi.eM];omega
   .cases h
theorem N5(ah:bU B w0 w df ax st a)(aJ:ax nid=none)(aL:nid<st.nx){z:List a8}(aw:o.op=.buildSlice t len parts)(aQ:P.underlying t=some (.slice e))
  (gp:p1 P e=true)(hlen:len<=1000)(B3:P.cellsOf e<=1000)(bp:sU P e len=some z)(aR:ud (λi=>some (i*P.cellsOf e,P.cellsOf e)) z (parts.toList.map λp=>(p.1,bG st.tm p.2))=some cs):
  ez P B w0 w df ax st a o nid {v:=.bA nid 0 len len (P.cellsOf e),dv:=[(nid,some (.cells false cs))]}:=by
 obtain⟨i,dz,hS,hi,fJ,dJ,hq,nF,cx,nG⟩:=Dv gp
 obtain⟨Og,mT,j'⟩:=Gy hi fJ hq dJ nG ax len bp
 obtain⟨fr,vU,kc,kM⟩:=xG (place':=λx=>some (x*i.size,i.size)) (λj p au=>by rw[cx];exact au) _ (parts.toList.map λp=>(p.1,a.eval p.2)) _ cs _ aR bb (aeI ah parts) Og mT
 have di:cs.length=len*i.size:=by rw[aeL _ _ _ aR,j']
 have pw:=aeJ a parts
 have ag4:¬(len*i.size>2^24):=by have:len*i.size<=1000*1000:=Nat.mul_le_mul hlen (by rw[cx];exact B3);omega
 have ag:=Go.Ev.r9 w (.cells fr.toArray e)
 refine Sj (cap:=len) ah aJ aL ag bb (World.alloc_heap_new w _) (.inl rfl) (by rw[<-kc.1,AZ];exact kc) (by rw[kc.1];exact dc _) kM (dc _) G2 (by rw[kc.1,di,cx];exact dc _) al ?_
 rw[GG]at vU
 by_cases a7:len*i.size=0
 .have l5:len=0:=by
    rcases Nat.mul_eq_zero.1 a7 with h|h
    .exact h
    .omega
  subst l5;have mw:Array.range 0= #[]:=rfl;have nH:Builtin.zeroCells dz.cells 0= #[]:=by simp[Builtin.zeroCells]
  rw[nH]at vU;have QU:¬(0>2^24):=gn;simp only[execOp,aw,Instr.buildSlice,iL,cA aQ,jX,sizeOf,typeInfo,vk,hi,lW,QU,A4,pw,A5,kn,mw,Array.map_empty,vU,newRow,run_newObj];rfl
 .have awD:(Array.range (len*i.size)).map (λj=>dz.cells[j%dz.cells.size]!)=Builtin.zeroCells dz.cells len:=by simp only[Builtin.zeroCells,hq]
  exact TI
theorem NM(ah:bU B w0 w df ax st a){f:Nat}{dB:Field}(aw:o.op=.field t x f)(fU:fieldOf P t f=some dB)(ak:bG st.tm x=.agg cs)(h:tI P dB.type (cs.drop dB.offset) (λv=>y {v})=some r):
  ∃e,y e=some r/\ez P B w0 w df ax st a o nid e:=by
 have ar:=e0 ah.tm x
 rw[ak]at ar
 obtain⟨vs,he,b6,af⟩:=ar.mS
 obtain⟨aC,nC,aR⟩:=Go.Ev.Ia fU
 obtain⟨v,u,aN,jt,e2⟩:=Jc h (b6.drop dB.offset) (λu hu=>af u (jx hu))
 refine⟨_,aN,calm ah jt ?_⟩
 rcases e2 with⟨qp,hle,rfl⟩|⟨qp,an,xs',gz⟩
 .obtain⟨d,aX⟩:=Go.Ev.EA qp;obtain⟨i,hi,cx⟩:=Go.Ev.zt aX;simp_all[execOp,Instr.field,cA,asAgg,part,Go.Ev.pC,sizeOf,typeInfo]
 .obtain⟨d,aX⟩:=mj.1 an;have hu:vs[dB.offset]?=some u:=by have:=dh (λl=>l[0]?) gz;simpa using this
  simp_all[execOp,Instr.field,cA,asAgg,part,Go.Ev.pC]
theorem TZ(ah:bU B w0 w df ax st a){i:Operand}(aw:o.op=.index t x i)(aQ:P.underlying t=some .string)(ak:bG st.tm x=.str s)(hi:bG st.tm i=.int k n)
  (ag:inb n s.length=true):ez P B w0 w df ax st a o nid {v:=.int .u8 ((s.getD n.toNat 0).toNat)}:=by
 have h:=e0 ah.tm x
 rw[ak]at h
 have h':=e0 ah.tm i
 rw[hi]at h'
 obtain⟨jB,eO,eW⟩:=Go.Ev.qq ag
 refine calm ah (.int _ _) ?_
 have aB:(ByteArray.mk s.toArray)[n.toNat]?=some (s.getD n.toNat 0):=by
  have aL:n.toNat<(ByteArray.mk s.toArray).size:=by simpa[ByteArray.size]using eW
  have a7:=getElem?_pos (ByteArray.mk s.toArray) n.toNat aL;rw[a7];congr 1;show s.toArray[n.toNat]=_;simp[fC eW]
 exact TJ
theorem NR(ah:bU B w0 w df ax st a){i:Operand}(aw:o.op=.index t x i)(aQ:P.underlying t=some (.array len e))(ak:bG st.tm x=.agg cs)(hi:bG st.tm i=.int k n)
  (ag:inb n len=true)(h:tI P e (cs.drop (n.toNat*P.cellsOf e)) (λv=>y {v})=some r):∃e,y e=some r/\ez P B w0 w df ax st a o nid e:=by
 have ar:=e0 ah.tm x
 rw[ak]at ar
 have h':=e0 ah.tm i
 rw[hi]at h'
 obtain⟨jB,eO,eW⟩:=Go.Ev.qq ag
 obtain⟨vs,he,b6,af⟩:=ar.mS
 obtain⟨v,u,aN,jt,e2⟩:=Jc h (b6.drop (n.toNat*P.cellsOf e)) (λu hu=>af u (jx hu))
 refine⟨_,aN,calm ah jt ?_⟩
 rcases e2 with⟨qp,hle,rfl⟩|⟨qp,an,xs',gz⟩
 .obtain⟨d,aX⟩:=Go.Ev.EA qp;obtain⟨i,hi,cx⟩:=Go.Ev.zt aX;simp[execOp,aw,he,h'.eT,Instr.index,asIntOf,cA aQ,jB,eO,part,Go.Ev.pC aX,qp,sizeOf,typeInfo,hi,cx]
 .obtain⟨d,aX⟩:=mj.1 an;obtain⟨i,hi,cx⟩:=Go.Ev.zt aX;have hu:vs[n.toNat*P.cellsOf e]?=some u:=by have:=dh (λl=>l[0]?) gz;simpa using this
  simp[execOp,aw,he,h'.eT,Instr.index,asIntOf,cA aQ,jB,eO,part,Go.Ev.pC aX,qp,sizeOf,typeInfo,hi,cx,hu]
theorem NH(ah:bU B w0 w df ax st a){op:BinOp}(aw:o.op=.binOp op t x z b')
  (h:evBin P op t (bG st.tm x).h3 (bG st.tm z).h3 (λv=>match qQ v with|some m=>y {v:=m}|none=>none)=some r):∃e,y e=some r/\ez P B w0 w df ax st a o nid e:=by
 obtain⟨v,Ie,aN,ar,bu⟩:=Go.Ev.UY (w:=w) (S:=λ_=>False) (β:=Go.Ev.cq) (ox:=x) (oz:=z) h ((e0 ah.tm x).h3 _ _ _) ((e0 ah.tm z).h3 _ _ _)
 split at aN
 .rename_i m hm;refine⟨_,aN,calm ah (O6 ar hm) ?_⟩;simp only[execOp,aw];rw[iL,bu];rfl
 .cases aN
theorem B0(ah:bU B w0 w df ax st a){op:BinOp}(aw:o.op=.binOp op t x z b')(bp:Go.Ev.vx z=true)(aQ:P.underlying t=some (.slice e))
  (ag:(bG st.tm x=.bf/\b=true)\/((∃i1 i2 i3 i4 i5,bG st.tm x=.bA i1 i2 i3 i4 i5)/\b=false))(mv:op=.eql\/op=.neq):ez P B w0 w df ax st a o nid {v:=.bool (if op=.eql then b else !b)}:=by
 have ar:=e0 ah.tm x
 rw[Go.Ev.Nn bp]at aw
 have aa:a.eval (.const (.slice none 0 0))=.slice none 0 0:=rfl
 obtain⟨A,n,c,hu,bq⟩:∃A n c,a.eval x=.slice A n c/\A.isNone=b:=by
  generalize a.eval x=u at ar;rcases ag with⟨ag,rfl⟩|⟨⟨_,_,_,_,_,ag⟩,rfl⟩<;>rw[ag]at ar<;>cases ar
  .exact⟨none,0,0,rfl,rfl⟩
  .exact⟨_,_,_,rfl,rfl⟩
 have heq:(Op.equal t (.slice A n c) (.slice none 0 0)).run P w=.ok A.isNone w:=run_equal_slice_nil w t e A n c aQ
 have aB:eqGuard op t x (.const (.slice none 0 0)) (.slice A n c) (.slice none 0 0)=pure ():=DU
 rw[bq]at heq
 rcases mv with rfl|rfl
 .refine calm ah (.bool _) ?_;simp_all[execOp,binOp]
 .refine calm ah (.bool _) ?_;simp_all[execOp,binOp]
theorem NI(ah:bU B w0 w df ax st a)(aw:o.op=.unOp .neg t x)(ak:bG st.tm x=.int k n):ez P B w0 w df ax st a o nid {v:=.int k (k.wrap (0-n))}:=by have h:=e0 ah.tm x;rw[ak]at h;exact calm ah (.int _ _) SY
theorem NJ(ah:bU B w0 w df ax st a)(aw:o.op=.unOp .not t x)(ak:bG st.tm x=.bool b):ez P B w0 w df ax st a o nid {v:=.bool !b}:=by have h:=e0 ah.tm x;rw[ak]at h;exact calm ah (.bool _) Tc
theorem NK(ah:bU B w0 w df ax st a){xt gM:IntKind}(aw:o.op=.convert src dst x)(an:P.underlying src=some (.int xt))(aX:P.underlying dst=some (.int k))(ak:bG st.tm x=.int gM n):
  ez P B w0 w df ax st a o nid {v:=.int k (k.wrap n)}:=by
 have h:=e0 ah.tm x
 rw[ak]at h
 exact calm ah (.int _ _) SD
theorem NL(ah:bU B w0 w df ax st a)(aw:o.op=.convert src dst x)(an:P.underlying src=some .string)(aX:P.underlying dst=some .string)(ak:bG st.tm x=.str s):
  ez P B w0 w df ax st a o nid {v:=.str s}:=by
 have h:=e0 ah.tm x
 rw[ak]at h
 exact calm ah (.str _) SI
theorem auR(ah:bU B w0 w df ax st a)(aw:o.op=.unOp .xor t x)(ak:bG st.tm x=.int k n):
  ez P B w0 w df ax st a o nid {v:=.int k (k.wrap (BitVec.ofInt k.bits (if k.signed then -1 else k.max)^^^BitVec.ofInt k.bits n).toNat)}:=by
 have h:=e0 ah.tm x
 rw[ak]at h
 exact calm ah (.int _ _) (by simp only[execOp,aw,h.eT,Op.unary,Op.intBits];rfl)
theorem auS(ah:bU B w0 w df ax st a){op:BinOp}(aw:o.op=.binOp op t x z b')(ag:Sc P t (bG st.tm x) z=some b)(mv:op=.eql\/op=.neq):ez P B w0 w df ax st a o nid {v:=.bool (if op=.eql then b else !b)}:=by
 have ar:=e0 ah.tm x;generalize hu:a.eval x=u at ar;unfold Sc at ag;split at ag
 .rename_i c;have fin:∀kE,(Op.equalIn 10000 t u c).run P w=.ok kE w->eqGuard op t x (.const c) u c=pure ()->(∀kE,(Op.equal t u c).run P w=.ok kE w->(binOp .eql t u c).run P w=.ok (.bool kE) w/\(binOp .neq t u c).run P w=.ok (.bool !kE) w)->ez P B w0 w df ax st a o nid {v:=.bool (if op=.eql then kE else !kE)}:=λkE af ao a1=>by
    obtain⟨ca,dA⟩:=a1 kE af;have aa:a.eval (.const c)=c:=rfl;rcases mv with rfl|rfl
    .exact calm ah (.bool _) DO
    .exact calm ah (.bool _) DO
  split at ag
  all_goals first|(cases ag;done)|(rename_i aQ ak;rw[ak]at ar;cases ar;cases ag)
  .exact fin true ((λd=>by simp[Op.equalIn,cA ‹P.underlying t=_›]:∀d,(Op.equalIn (d+1) t _ _).run P w=.ok _ w) 9999) (by rcases mv with rfl|rfl<;>cases x<;>rfl) λkE h=>⟨Ma,Ma⟩
  .exact fin true ((λd=>by simp[Op.equalIn,cA ‹P.underlying t=_›]:∀d,(Op.equalIn (d+1) t _ _).run P w=.ok _ w) 9999) DU λkE h=>⟨by simp only[binOp,iL,h,jX,lW],Ma⟩
  .exact Hm
  .exact Td
  .exact Hm
  .exact Hm
  .exact Td
  .exact Hm
 .cases ag
end ops
section ops
variable{aj:Type}{P:Program}{B:Nat->Prop}{w0 w:World}{df:List Deferred}{ax:du}{st:dG}{a:Act}{o:Oper}{nid:Nat}{y:jG->Option aj}{r:aj}
theorem aeM{α:Type}(arr us:List α)(s j n:Nat)(h:j+us.length<=n)(aJ:s+n<=arr.length):
  ((arr.take (s+j)++us++arr.drop (s+j+us.length)).drop s).take n=((arr.drop s).take n).take j++us++((arr.drop s).take n).drop (j+us.length):=by
 apply yE
 intro i
 simp only[AX,ae6,List.getElem?_append,wQ,fu,mJ]
 by_cases af:i<n
 .by_cases ao:i<j
  .grind
  grind
 grind
def bU.write(ah:bU B w0 w df ax st a){id j:Nat}{ds:List a8}{p:nj}(aB:get st.h id=some (.cells false cs))(au:ax id=some p)(aP:j+ds.length<=cs.length)(ar:ck ax ds us)(af:∀u∈us,u.oneCell'=true):
  ∃(arr:List Value)(t:TypeId)(fz:Nat×Nat),w.heap[p.g]?=some (.cells arr.toArray t fz)/\(storeCells ⟨p.g,p.fy+j,none⟩ us).run P w=.ok () (w.setRow p.g (arr.take (p.fy+j)++us++arr.drop (p.fy+j+us.length)).toArray)/\
   bU B w0 (w.setRow p.g (arr.take (p.fy+j)++us++arr.drop (p.fy+j+us.length)).toArray) df ax ⟨st.tm,hV st.h (id,some (.cells false (eM cs j ds))),st.nx⟩ a:=by
 obtain⟨arr,t,fz,hh,cx,gV,hle,wP,b6⟩:=ah.cells aB au
 have jL:p.fy+j+us.length<=arr.length:=by rw[ar.1];omega
 have fx:=Go.Ev.zx P p.g (p.fy+j) t fz us 0 arr.toArray w hh Mm Mr af
 simp only[lX]at fx
 refine⟨arr,t,fz,hh,fx,ah.mod aB au (Go.Ev.uF w p.g _) ?_⟩
 have hlen:(arr.take (p.fy+j)++us++arr.drop (p.fy+j+us.length)).length=arr.length:=lu
 have di:(eM cs j ds).length=cs.length:=by simp[Go.Mi.eM];omega
 refine⟨_,t,fz,setRow_heap w p.g _ _ t _ hh,by rw[hlen];exact cx,λh=>by rw[hlen];exact gV h,by rw[di];exact hle,Io wP af,?_⟩
 rw[di,aeM arr us p.fy j cs.length (by rw[ar.1];exact aP) (by rw[cx];exact hle)]
 exact b6.eM ar j
theorem auT(ah:bU B w0 w df ax st a){id:Nat}(aw:o.op=.store t x z)(pJ:(bG st.tm z).laid=true)(aJ:(bG st.tm z).cells.length=P.cellsOf t)(hU:P.cellsOf t≠0)
  (ak:bG st.tm x=.ptr id off)(aB:get st.h id=some (.cells false cs))(hle:off+(bG st.tm z).cells.length<=cs.length):
  ez P B w0 w df ax st a o nid {v:=.undef,reads:=[id],dv:=[(id,some (.cells false (eM cs off (bG st.tm z).cells)))]}:=by
 obtain⟨us,o2,e6,lf⟩:=(e0 ah.tm z).laid pJ
 have rh:=e0 ah.tm x
 rw[ak]at rh
 obtain⟨p,au,he⟩:=Cq rh
 obtain⟨i,hi,EI⟩:=Go.Ev.xB hU
 obtain⟨arr,kb,fz,hh,fx,dI⟩:=ah.write (P:=P) aB au hle e6 lf
 refine⟨undef,_,ax,.inr ⟨?_,rfl⟩,Ext.refl _,λ_ _=>rfl,.undef,dI⟩
 have jP:us.length=P.cellsOf t:=Bo
 exact Hs
theorem Sk(ah:bU B w0 w df ax st a){x:Option Operand}{d:Nat}(h:jW d (x.map (bG st.tm))=some n):(x=none/\n=d)\/∃z k,x=some z/\a.eval z=.int k n:=by
 cases x with
 |none=>grind[jW]
 |some z=>have ar:=e0 ah.tm z;simp only[jm,jW]at h;generalize bG st.tm z=v at h ar;cases v<;>simp[aeF]at h;rename_i k m;subst h;exact .inr ⟨z,k,rfl,ar.eT⟩
theorem BV(ah:bU B w0 w df ax st a){m:Int}{sl:Bool}(ay:jW 0 (lo.map (bG st.tm))=some l)(hh:jW len (hi.map (bG st.tm))=some n)(hm:jW cap (mx.map (bG st.tm))=some m)
  (a7:0<=l)(af:l<=n)(ao:n<=m)(je:mx=none\/hi≠none){cap':Nat}(aa:m<=cap'):
  (Instr.sliceBounds sl len cap' (lo.map a.eval) (hi.map a.eval) (mx.map a.eval)).run P w=.ok (l.toNat,n.toNat,if mx=none then cap' else m.toNat) w:=by
 rcases Sk ah ay with⟨rfl,dw⟩|⟨z,k,rfl,dw⟩<;>rcases Sk ah hh with⟨rfl,aU⟩|⟨pG,cl,rfl,aU⟩<;>rcases Sk ah hm with⟨rfl,bc⟩|⟨z2,kW,rfl,bc⟩
 .simp_all[Instr.sliceBounds]
 .simp at je
 .subst dw;have ag:=λc=>Go.Ev.run_sliceBound (P:=P) (w:=w) (k:=cl) (n:=n) (m:=cap') c al al;simp[Instr.sliceBounds,aU,ag]
 .subst dw;have hy:=λc=>Go.Ev.run_sliceBound (P:=P) (w:=w) (k:=kW) (n:=m) (m:=cap') c al al;have ag:=λc=>Go.Ev.run_sliceBound (P:=P) (w:=w) (k:=cl) (n:=n) (m:=m.toNat) c al al;simp_all[Instr.sliceBounds]
 .simp_all[Go.Ev.run_sliceBound,Instr.sliceBounds]
 .simp at je
 .have ag:=λc=>Go.Ev.run_sliceBound (P:=P) (w:=w) (k:=cl) (n:=n) (m:=cap') c al al;exact Tp
 .have hy:=λc=>Go.Ev.run_sliceBound (P:=P) (w:=w) (k:=kW) (n:=m) (m:=cap') c al al;have ag:=λc=>Go.Ev.run_sliceBound (P:=P) (w:=w) (k:=cl) (n:=n) (m:=m.toNat) c al al;exact Tp
def NN(ah:bU B w0 w df ax st a)(aw:o.op=.slice t x lo hi none)(aQ:P.underlying t=some .string)(ak:bG st.tm x=.str s)
  (ay:jW 0 (lo.map (bG st.tm))=some l)(hh:jW s.length (hi.map (bG st.tm))=some n)(ag:slb l n s.length=true):ez P B w0 w df ax st a o nid {v:=.str ((s.drop l.toNat).take (n.toNat-l.toNat))}:=by
 simp only[slb,ba,fD]at ag
 have h:=e0 ah.tm x
 rw[ak]at h
 refine calm ah (.str _) ?_
 have gx:=BV (P:=P) (mx:=none) (m:=s.length) (cap:=s.length) (cap':=s.length) (sl:=false) ah ay hh rfl ag.1 ag.2.1 ag.2.2 (.inl rfl) al
 have cx:(ByteArray.mk s.toArray).size=s.length:=vq
 simp only[Option.map_none]at gx
 simp[execOp,aw,h.hO,Instr.sliceAt,cA aQ,Instr.slice,cx,gx,Go.Ev.extract_mk]
theorem auU(ah:bU B w0 w df ax st a){m:Int}(aw:o.op=.slice t x lo hi mx)(aQ:P.underlying t=some (.slice e))(ak:bG st.tm x=.bf)(dt:(P.info? e).isSome=true)
  (ay:jW 0 (lo.map (bG st.tm))=some l)(hh:jW 0 (hi.map (bG st.tm))=some n)(hm:jW 0 (mx.map (bG st.tm))=some m)(l5:l=0)(hU:n=0)(HR:m=0)(je:mx=none\/hi≠none):ez P B w0 w df ax st a o nid {v:=.bf}:=by
 subst l5 hU HR
 have h:=e0 ah.tm x
 rw[ak]at h
 obtain⟨i,eC⟩:=mj.1 dt
 have gx:=BV (P:=P) (cap':=0) (sl:=true) ah ay hh hm al al al je al
 refine calm ah .bf ?_
 simp[execOp,aw,h.zY,Instr.sliceAt,cA aQ,Instr.slice,gx,sizeOf,typeInfo,eC]
theorem auV(ah:bU B w0 w df ax st a){m:Int}{id:Nat}(aw:o.op=.slice t x lo hi mx)(aQ:P.underlying t=some (.slice e))(ak:bG st.tm x=.bA id off len cap wd)(o7:wd=P.cellsOf e)
  (ay:jW 0 (lo.map (bG st.tm))=some l)(hh:jW len (hi.map (bG st.tm))=some n)(hm:jW cap (mx.map (bG st.tm))=some m)(a7:0<=l)(af:l<=n)(ao:n<=m)(a1:m<=cap)(je:mx=none\/hi≠none):
  ez P B w0 w df ax st a o nid {v:=.bA id (off+l.toNat*wd) (n.toNat-l.toNat) (m.toNat-l.toNat) wd}:=by
 have h:=e0 ah.tm x
 rw[ak]at h
 generalize he:a.eval x=u at h
 cases h with
 |bA _ _ _ _ _ p o' cap' au xx aa v' hb an bp hw=>
  obtain⟨i,eC,cx⟩:=Go.Ev.xB (P:=P) (t:=e) al
  have gx:=BV (P:=P) (cap':=cap') (sl:=true) ah ay hh hm a7 af ao je al
  generalize dI:(if mx=none then cap' else m.toNat)=M at gx
  have rq:m.toNat<=M:=by subst dI;split<;>omega
  have uQ:M<=cap':=by subst dI;split<;>omega
  have auW:l.toNat<=n.toNat:=al
  have yN:n.toNat<=m.toNat:=al
  have bu:(execOp a.eval o).run P w=.ok (.value (.slice (some (if M=l.toNat then⟨p.g,o',none⟩else⟨p.g,o'+l.toNat*wd,none⟩)) (n.toNat-l.toNat) (M-l.toNat))) w:=by simp only[execOp,aw,he,Instr.sliceAt,iL,cA aQ,jX,Instr.slice,gx,sizeOf,typeInfo,vk,eC,lW,cx,<-o7];grind[Go.Ev.hd]
  by_cases aH:M=l.toNat
  .rw[dE aH]at bu;refine calm ah ?_ bu;refine .bA id _ _ _ wd p o' (M-l.toNat) au al al al (λdJ=>al) an ?_ hw;grind
  .rw[c0 aH]at bu;refine calm ah ?_ bu;refine .bA id _ _ _ wd p (o'+l.toNat*wd) (M-l.toNat) au al al al (λdJ=>?_) al ?_ hw
   .omega
   .refine lp ?_ bp;rw[uf,<-kB];exact Nat.add_le_add_left (sW _ al) _
theorem NP(ah:bU B w0 w df ax st a){id k:Nat}(aw:o.op=.slice t x lo hi none)(aQ:P.underlying t=some (.array k e))(ak:bG st.tm x=.ptr id off)(Ef:P.cellsOf e≠0)(aa:rr st.h id=some cs)(hle:off+k*P.cellsOf e<=cs.length)
  (ay:jW 0 (lo.map (bG st.tm))=some l)(hh:jW k (hi.map (bG st.tm))=some n)(a7:0<=l)(af:l<=n)(ao:n<=k)(ai:k<=maxLen):
  ez P B w0 w df ax st a o nid {v:=.bA id (off+l.toNat*P.cellsOf e) (n.toNat-l.toNat) (k-l.toNat) (P.cellsOf e),reads:=[id]}:=by
 have h:=e0 ah.tm x
 rw[ak]at h
 obtain⟨p,au,he⟩:=Cq h
 obtain⟨fV,aB⟩:∃fV,get st.h id=some (.cells fV cs):=by
  unfold rr at aa;split at aa
  .rename_i f c aB;cases aa;exact⟨f,aB⟩
  .cases aa
 obtain⟨arr,kb,fz,VA,cx,gV,xV,wP,b6⟩:=ah.cells aB au
 obtain⟨i,eC,EI⟩:=Go.Ev.xB (P:=P) Ef
 have gx:=BV (P:=P) (mx:=none) (m:=(k:Nat)) (cap:=k) (cap':=k) (sl:=false) ah ay hh rfl a7 af ao (.inl rfl) al
 simp only[Option.map_none,kn]at gx
 have bu:(execOp a.eval o).run P w=.ok (.value (.slice (some (if k=l.toNat then⟨p.g,p.fy+off,none⟩else⟨p.g,p.fy+off+l.toNat*P.cellsOf e,none⟩)) (n.toNat-l.toNat) (k-l.toNat))) w:=by simp only[execOp,aw,he,Instr.sliceAt,iL,cA aQ,jX,Instr.sureAddr,lW,Option.map_none,gx,sizeOf,typeInfo,vk,eC,EI];split<;>simp[Go.Ev.hd]
 have auW:l.toNat<=n.toNat:=al
 have xr:l.toNat*P.cellsOf e+(k-l.toNat)*P.cellsOf e=k*P.cellsOf e:=by rw[<-kB];congr 1;omega
 by_cases aH:k=l.toNat
 .rw[dE aH]at bu;exact calm ah (.bA id _ _ _ _ p (p.fy+off) (k-l.toNat) au al al al (λdJ=>al) al al al) bu
 .rw[c0 aH]at bu;exact calm ah (.bA id _ _ _ _ p (p.fy+off+l.toNat*P.cellsOf e) (k-l.toNat) au al al al (λdJ=>al) al al al) bu
end ops
section ops
variable{aj:Type}{P:Program}{B:Nat->Prop}{w0 w:World}{df:List Deferred}{ax:du}{st:dG}{a:Act}{o:Oper}{nid:Nat}{y:jG->Option aj}{r:aj}
theorem O3{h:List (Nat×bT)}{id:Nat}(aa:rr h id=some cs):∃fV,get h id=some (.cells fV cs):=by grind[rr]
theorem O2(ah:bU B w0 w df ax st a){z:a8}(h:tD st.h wd z=some q)(ar:cT ax z u):
  ∃(A:Option Addr)(n c:Nat)(ad:Addr)(xs:List Value),u=.slice A n c/\(0<n->A=some ad)/\ck ax q.1 xs/\(∀u∈xs,u.oneCell'=true)/\(∀(j:Nat)(u:Value),xs[j]?=some u->w.cell? (ad.add j)=some u)/\q.1.length=n*wd/\n<=maxLen:=by
 unfold tD at h
 split at h
 .cases h;have:=ar.zY;subst this;exact⟨none,0,0,⟨0,0,none⟩,[],rfl,λh=>absurd h (mK _),ck.nil,(λu hu=>by cases hu),(λj u hu=>by simp at hu),bb,iM _⟩
 .rename_i id off len cap EK;split at h
  .rename_i o7;have tE:=cH o7;subst tE;split at h
   .rename_i cs aa;split at h
    .rename_i hle;cases h;have p8:=kA hle;obtain⟨fV,aB⟩:=O3 aa;cases ar with
     |bA _ _ _ _ _ p o' cap' au ay uS hm aw an bp hw=>
      obtain⟨arr,t,fz,hh,cx,gV,xV,wP,b6⟩:=ah.cells aB au;have hlen:((cs.drop off).take (len*wd)).length=len*wd:=by rw[wQ,mJ];omega
      refine⟨_,len,cap',⟨p.g,p.fy+off,none⟩,(arr.drop (p.fy+off)).take (len*wd),rfl,λa7=>by rw[aw al],?_,λu hu=>wP u (jx (lr hu)),λj u aP=>Jd hh _ _ j u aP,hlen,al⟩;have:=(b6.drop off).take (len*wd);grind[aeH]
    .cases h
   .cases h
  .cases h
 .cases h
structure Src(P:Program)(w:World)(t b' e:TypeId)(i:TypeInfo)(z:Value)(u:Value)(n:Nat)(xs:List Value):Prop where
 zero:n=0->∀(A:Option Addr)(m cap:Nat)(ty:TypeId),m<=cap->(Builtin.append_ #[t,b'] ty #[.slice A m cap,u]).run P w=.ok (.slice A m cap) w
 room:0<n->∀(g off c8 sCap:Nat)(cur:Array Value)(kb:TypeId)(fz:Nat×Nat)(ty:TypeId),w.heap[g]?=some (.cells cur kb fz)->(fz=(0,0)\/fz=(cur.size,cur.size+1))->c8+n<=sCap->off+c8*i.size+xs.length<=cur.size->
  (Builtin.append_ #[t,b'] ty #[.slice (some ⟨g,off,none⟩) c8 sCap,u]).run P w=.ok (.slice (some ⟨g,off,none⟩) (c8+n) sCap) (w.setRow g (cur.toList.take (off+c8*i.size)++xs++cur.toList.drop (off+c8*i.size+xs.length)).toArray)
 grow:0<n->∀(A:Option Addr)(c8 sCap:Nat)(kN:List Value)(ty:TypeId),kN.length=c8*i.size->(∀b,A=some b->∀(j:Nat)(v:Value),kN[j]?=some v->w.cell? (b.add j)=some v)->(A=none->c8=0)->sCap<c8+n->((c8+n:Nat):Int)<=9223372036854775807->Builtin.nextslicecap (c8+n) sCap*i.bytes<=281474976710656->
  (Builtin.append_ #[t,b'] ty #[.slice A c8 sCap,u]).run P w=
  .ok (.slice (some ⟨w.heap.size,0,none⟩) (c8+n) (grownCap w (c8+n) sCap e)) (w.drew.alloc (.cells ((kN++xs).toArray++Builtin.zeroCells z.cells (grownCap w (c8+n) sCap e-(c8+n))) e))
theorem auX{z:Value}(aQ:P.underlying t=some (.slice e))(rH:P.underlying b'=some (.slice e))(hi:P.info? e=some i)(bp:i.zero=some z){qt:Option Addr}{n:Nat}{ad:Addr}{xs:List Value}(bq:0<n->qt=some ad)(ay:xs.length=n*i.size)
  (zy:∀(j:Nat)(v:Value),xs[j]?=some v->w.cell? (ad.add j)=some v)(af:∀u∈xs,u.oneCell'=true):Src P w t b' e i z (.slice qt n c) n xs:=by
 refine⟨λa7 A m cap ty hm=>?_,λa7 g off c8 sCap cur kb fz ty aB gV h2 jL=>?_,λa7 A c8 sCap kN ty l8 holds auY aB qs jL=>?_⟩
 .subst a7;cases A<;>cases qt<;>simp[Builtin.append_,cA aQ,cA rH,sizeOf,typeInfo,hi,Builtin.lenOf,Builtin.firstCells,loadCells,loadCellsFrom,storeCells,hm]
 .have aR:=A0 (P:=P) w i.size n ad n c xs ay zy;have fx:=Go.Ev.zx P g (off+c8*i.size) kb fz xs 0 cur w aB gV Mr af;simp only[lX]at fx;rw[bq a7];simp[Builtin.append_,cA aQ,cA rH,sizeOf,typeInfo,hi,Builtin.lenOf,h2,aR,Go.Ev.hd,fx]
 .have Gb:¬(c8+n<=sCap):=al;have Gc:¬(9223372036854775807<((c8:Int)+(n:Int))):=al;have Gd:¬(281474976710656<Builtin.nextslicecap (c8+n) sCap*i.bytes):=al;have aR:=A0 (P:=P) w.drew i.size n ad n c xs ay (by simpa using zy);have qk:(Builtin.firstCells i.size c8 (.slice A c8 sCap)).run P w.drew=.ok kN.toArray w.drew:=by
    cases A with
    |none=>simp_all[Builtin.firstCells]
    |some b=>exact A0 (P:=P) w.drew i.size c8 b c8 sCap kN l8 (by simpa using holds b rfl)
  rw[bq a7];simp[Builtin.append_,cA aQ,cA rH,sizeOf,typeInfo,zeroValue,hi,bp,Builtin.lenOf,Gb,Gc,Gd,Question.forced,qk,aR,newRow,grownCap];grind
theorem auZ{z:Value}(aQ:P.underlying t=some (.slice e))(rH:P.underlying b'=some .string)(hi:P.info? e=some i)(bp:i.zero=some z)(b:List UInt8)(hI:i.size=1):Src P w t b' e i z (.string ⟨b.toArray⟩) b.length (Lib.strCells ⟨b.toArray⟩):=by
 have cx:(ByteArray.mk b.toArray).size=b.length:=vq;refine⟨λa7 A m cap ty hm=>?_,λa7 g off c8 sCap cur kb fz ty aB gV h2 jL=>?_,λa7 A c8 sCap kN ty l8 holds auY aB qs jL=>?_⟩
 .have ag:b=[]:=pn a7;subst ag;have nH:ByteArray.size {data:= #[]}=0:=rfl;cases A<;>simp[Builtin.append_,cA aQ,cA rH,sizeOf,typeInfo,hi,Builtin.lenOf,Builtin.firstCells,storeCells,nH,hm]
 .have pI:=LV (P:=P) w 1 ⟨b.toArray⟩;have fx:=Go.Ev.zx P g (off+c8*1) kb fz (Lib.strCells ⟨b.toArray⟩) 0 cur w aB gV bM (DC _);simp only[lX,yF]at fx;rw[cx]at pI;rw[hI,yF];simp[Builtin.append_,cA aQ,cA rH,sizeOf,typeInfo,hi,hI,Builtin.lenOf,cx,h2,pI,Go.Ev.hd,fx]
 .have Gb:¬(c8+b.length<=sCap):=al;have Gc:¬(9223372036854775807<((c8:Int)+(b.length:Int))):=al;have Gd:¬(281474976710656<Builtin.nextslicecap (c8+b.length) sCap*i.bytes):=al;have pI:=LV (P:=P) w.drew 1 ⟨b.toArray⟩;rw[cx]at pI;have qk:(Builtin.firstCells i.size c8 (.slice A c8 sCap)).run P w.drew=.ok kN.toArray w.drew:=by
    cases A with
    |none=>simp_all[Builtin.firstCells]
    |some zd=>exact A0 (P:=P) w.drew i.size c8 zd c8 sCap kN l8 (by simpa using holds zd rfl)
  rw[hI]at qk;simp[Builtin.append_,cA aQ,cA rH,sizeOf,typeInfo,zeroValue,hi,bp,hI,Builtin.lenOf,cx,Gb,Gc,Gd,Question.forced,qk,pI,newRow,grownCap];grind
theorem Sl{ax:du}:∀b:List UInt8,ck ax (Dt b) (Lib.strCells ⟨b.toArray⟩)
 |[]=>ck.nil
 |_::b=>ck.cons (.int _ _) (Sl b)
theorem aeN(ah:bU B w0 w df ax st a){z:Value}(aQ:P.underlying t=some (.slice e))(hi:P.info? e=some i)(bp:i.zero=some z)(cx:i.size=P.cellsOf e){x:a8}(h:wh P st.h e b' x=some q)(ar:cT ax x u):
  ∃n xs,Src P w t b' e i z u n xs/\ck ax q.1 xs/\(∀u∈xs,u.oneCell'=true)/\xs.length=n*i.size/\(Builtin.lenOf u).run P w=.ok n w/\(∀m,m<=n->(Builtin.firstCells i.size m u).run P w=.ok (xs.take (m*i.size)).toArray w):=by
 unfold wh at h
 split at h
 .rename_i rH;split at h
  .rename_i b;split at h
   .rename_i af;cases h;have hI:i.size=1:=cx.trans (cH af);have:=ar.hO;subst this;have au0:(ByteArray.mk b.toArray).size=b.length:=vq;have kp:(Lib.strCells ⟨b.toArray⟩).length=b.length:=by rw[Lib.strCells_length,au0]
    refine⟨b.length,Lib.strCells ⟨b.toArray⟩,auZ aQ rH hi bp b hI,Sl b,DC _,bM,by rfl,λm hm=>?_⟩;rw[hI,yF];simp_all[Builtin.firstCells,lW,Result.ok.injEq,po,Go.Ev.extract_mk,wR,Lib.strCells,List.map_take]
   .cases h
  .cases h
 .rename_i e' rH;split at h
  .rename_i ke;have xc:=cH ke;subst xc;obtain⟨A,n,c,ad,xs,rfl,bq,gz,af,o0,hlen,hm⟩:=O2 ah h ar;have kp:xs.length=n*i.size:=by rw[gz.1,hlen,cx]
   refine⟨n,xs,auX aQ rH hi bp bq kp o0 af,gz,af,kp,by simp[Builtin.lenOf],λm hm=>?_⟩;rcases vl n with a7|a7
   .have:m=0:=al;subst this;cases A<;>simp[Builtin.firstCells,loadCells,loadCellsFrom]
   grind[Nat.mul_le_mul_right,run_firstCells_some]
  .cases h
 .cases h
theorem tl(args:Array Operand)(us:List Value)(h:args.toList.map a.eval=us):args.map a.eval=us.toArray:=bM
theorem Sm(ah:bU B w0 w df ax st a){x z:a8}(h:iv st.tm args.toList=[x,z]):∃u v,args.map a.eval= #[u,v]/\cT ax x u/\cT ax z v:=by have ar:=wb ah.tm args.toList;rw[h]at ar;obtain⟨u,us,he,hu,hI⟩:=ar.inv;obtain⟨v,No,rfl,BT,aJ⟩:=hI.inv;rw[aJ.gf]at he;grind
theorem LK(ah:bU B w0 w df ax st a){x:a8}(h:iv st.tm args.toList=[x]):∃u,args.map a.eval= #[u]/\cT ax x u:=by have ar:=wb ah.tm args.toList;rw[h]at ar;obtain⟨u,us,he,hu,aJ⟩:=ar.inv;rw[aJ.gf]at he;grind
theorem Sn(h:ae.toList=[t,b']):ae= #[t,b']:=bM
theorem aeO(h:ae.toList=[t]):ae= #[t]:=bM
theorem Sp(ah:bU B w0 w df ax st a)(aJ:ax nid=none)(aL:nid<st.nx){z:Value}{hS:List a8}{n sCap:Nat}(hi:P.info? e=some i)(bp:i.zero=some z)(hq:z.cells.size=i.size)(dJ:0<i.size)(jO:rN P e=some hS)
  (ar:ck ax cs us)(af:∀u∈us,u.oneCell'=true)(di:cs.length=n*i.size)(hm:n<=maxLen)
  (bu:(execOp a.eval o).run P w=.ok (.value (.slice (some ⟨w.heap.size,0,none⟩) n (grownCap w n sCap e))) (w.drew.alloc (.cells (us.toArray++Builtin.zeroCells z.cells (grownCap w n sCap e-n)) e))):
  ez P B w0 w df ax st a o nid {v:=.bA nid 0 n n i.size,reads:=rs,dv:=[(nid,some (.cells false cs))]}:=by
 have xL:=yG w n sCap e
 have r':=yH w n sCap e hm
 obtain⟨dV,z2,z3⟩:=Gy hi bp hq dJ jO ax (grownCap w n sCap e-n) (Sg jO _)
 have ak:us.toArray++Builtin.zeroCells z.cells (grownCap w n sCap e-n)=(us++(Builtin.zeroCells z.cells (grownCap w n sCap e-n)).toList).toArray:=ml
 have j':(Builtin.zeroCells z.cells (grownCap w n sCap e-n)).toList.length=(grownCap w n sCap e-n)*i.size:=by rw[dV.1,z3]
 have jP:us.length=n*i.size:=by rw[ar.1,di]
 have ag:=Go.Ev.EG w (.cells (us.toArray++Builtin.zeroCells z.cells (grownCap w n sCap e-n)) e)
 have aeP:n*i.size+(grownCap w n sCap e-n)*i.size=grownCap w n sCap e*i.size:=by rw[<-kB];congr 1;omega
 refine Sj (us:=us++(Builtin.zeroCells z.cells (grownCap w n sCap e-n)).toList) (t:=e) (fz:=(0,0)) (cap:=grownCap w n sCap e) ah aJ aL ag bb ?_ (.inl rfl) ?_ bM (λu hu=>?_) xL r' bM dJ bu
 .have:=LR w.drew (.cells (us.toArray++Builtin.zeroCells z.cells (grownCap w n sCap e-n)) e);simp_all
 .grind
 grind
end ops
section ops
variable{aj:Type}{P:Program}{B:Nat->Prop}{w0 w:World}{df:List Deferred}{ax:du}{st:dG}{a:Act}{o:Oper}{nid:Nat}{y:jG->Option aj}{r:aj}
theorem aeQ{v x:Value}{w':World}(aw:o.op=.call {callee:=.builtin .append,args:=args,argTypes:=ae})(mm:ae= #[t,b'])(hm:args.map a.eval= #[u,v])
 (bu:(Builtin.append_ #[t,b'] o.type #[u,v]).run P w=.ok x w'):(execOp a.eval o).run P w=.ok (.value x) w':=SE
def bU.look(h:bU B w0 w df ax st a){h':List (Nat×bT)}(he:∀i,get h' i=get st.h i):bU B w0 w df ax ⟨st.tm,h',st.nx⟩ a:=⟨h.tm,h.df,λi x ak=>h.obj i x ((he i).symm.trans ak),λi fG x gH p fk ak kI=>h.inj i fG x gH p fk ((he i).symm.trans ak) ((he fG).symm.trans kI),h.lt,h.nx,h.kept,h.ble,h.js⟩
theorem au1(ah:bU B w0 w df ax st a)(aJ:ax nid=none)(aL:nid<st.nx){cl:IntKind}(aw:o.op=.call {callee:=.builtin .append,args:=args,argTypes:=ae})(h1:ae.toList=[t,b'])(ak:iv st.tm args.toList=[.bf,.int .i64 n])
  (aQ:P.underlying t=some (.slice e))(pD:P.underlying b'=some (.int cl))(gp:p1 P e=true)(a7:0<n)(h2:roomB n.toNat (P.bytesOf e)=true)(bp:sU P e n.toNat=some cs):
  ez P B w0 w df ax st a o nid {v:=.bA nid 0 n.toNat n.toNat (P.cellsOf e),dv:=[(nid,some (.cells false cs))]}:=by
 obtain⟨u,v,hm,hu,ar⟩:=Sm ah ak
 obtain⟨i,dz,hS,hi,fJ,dJ,hq,nF,cx,nG⟩:=Dv gp
 obtain⟨k2,hy⟩:=Go.Ev.zB h2
 obtain⟨dV,z2,z3⟩:=Gy hi fJ hq dJ nG ax n.toNat bp
 have Rq:((n.toNat:Nat):Int)=n:=al
 have bu:=Go.Ev.abR (P:=P) (w:=w) t b' o.type e i dz aQ (k:=.i64) pD hi fJ dJ none 0 0 n.toNat [] bb (λ_ h=>cM) (λ_=>rfl) al al al
  (by rw[nF];omega) (by simp_all[sX,Go.Ev.Ik])
 rw[Rq,<-hu.zY,<-ar.eT]at bu
 rw[sX,pj]at bu
 grind[Sp,maxLen,aeQ,Sn]
theorem au2(ah:bU B w0 w df ax st a)(aJ:ax nid=none)(aL:nid<st.nx){x z:a8}(aw:o.op=.call {callee:=.builtin .append,args:=args,argTypes:=ae})(h1:ae.toList=[t,b'])(ak:iv st.tm args.toList=[x,z])
  (aQ:P.underlying t=some (.slice e))(gp:p1 P e=true)(aH:wh P st.h e b' z=some q)
  (h:Cs P nid e q x st.h y=some r):∃e,y e=some r/\ez P B w0 w df ax st a o nid e:=by
 obtain⟨u,v,hm,hu,ar⟩:=Sm ah ak
 obtain⟨i,dz,hS,hi,fJ,dJ,hq,nF,cx,nG⟩:=Dv gp
 obtain⟨n,xs,kL,gz,af,kp,_,_⟩:=aeN ah aQ hi fJ cx aH ar
 have pL:q.1.length=n*i.size:=by rw[<-gz.1,kp]
 have LL:q.1.length/P.cellsOf e=n:=by rw[pL,<-cx,Nat.mul_div_cancel _ dJ]
 have aeR:q.1.isEmpty=true->n=0:=λhe=>by
  have:q.1.length=0:=Hg;rw[pL]at this;rcases Nat.mul_eq_zero.1 this with h|h
  .exact h
  .omega
 have bO:¬q.1.isEmpty=true->0<n:=λhe=>by
  rcases vl n with a7|a7
  .exfalso;apply he;rw[a7,A5]at pL;simpa using pL
  .exact a7
 have hex:∀{x:Value}{w':World},(Builtin.append_ #[t,b'] o.type #[u,v]).run P w=.ok x w'->(execOp a.eval o).run P w=.ok (.value x) w':=λbu=>aeQ aw (Sn h1) hm bu
 clear ak
 unfold Cs at h
 split at h
 .have pF:=hu.zY;subst pF;split at h
  .rename_i he;exact⟨_,h,calm ah .bf (hex (kL.zero (aeR he) none 0 0 o.type (dc _)))⟩
  .rename_i he;split at h
   .rename_i h2;rw[LL]at h2 h;obtain⟨k2,hy⟩:=Go.Ev.zB h2;have hU:=bO he;have bu:=kL.grow hU none 0 0 [] o.type bb (λ_ h=>cM) (λ_=>rfl) al al (by rw[sX,nF];exact Go.Ev.Ik h2 al);rw[sX,pj]at bu;refine⟨_,h,?_⟩;rw[<-cx];exact Sp ah aJ aL (sCap:=0) hi fJ hq dJ nG gz af pL G2 (hex bu)
   .cases h
 .rename_i id off len cap wd;split at h
  .cases h
  .rename_i o7;have tE:wd=P.cellsOf e:=cH (by simpa using o7);have yv:wd=i.size:=by rw[tE,cx]
   cases hu with
   |bA _ _ _ _ _ p o' cap' au ay aa v' hb an bp hw=>
   split at h
   .rename_i he;exact⟨_,h,calm ah (.bA id off len cap wd p o' cap' au ay aa v' hb an bp hw) (hex (kL.zero (aeR he) _ len cap' o.type al))⟩
   .rename_i he;have hU:=bO he;rw[tE,LL]at h;split at h
    .rename_i cs aB;obtain⟨arr,kb,fz,hh,au3,gV,xV,wP,b6⟩:=ah.cells aB au;split at h
     .rename_i h2;have au4:=kA h2;split at h
      .rename_i jL;have aeS:=kA jL;have ue:=hb al;obtain⟨au5,awE,zh,EX,fx,dI⟩:=ah.write (P:=P) aB au aeS gz af;have bu:=kL.room hU p.g o' len cap' arr.toArray kb fz o.type hh Mm al (by rw[<-yv,tE,gz.1];simp;omega);have bc:au5=arr:=bM;subst bc;rw[<-yv,tE,ue]at bu;rw[ue]at hex;refine⟨_,h,_,_,ax,.inl (hex bu),Ext.refl _,λ_ _=>rfl,?_,?_⟩
       .rw[<-ue];exact .bA id off _ cap _ p o' cap' au al aa v' hb an (by rw[<-tE];exact bp) al
       .have bw:p.fy+off+len*P.cellsOf e=p.fy+(off+len*P.cellsOf e):=uf _ _ _;rw[bw];exact dI
      .cases h
     .rename_i h2;have au4:¬len+n<=cap:=λaa=>h2 (LW aa);split at h
      .rename_i oO;simp only[ba]at oO;obtain⟨jL,au6⟩:=oO;have aeS:=kA jL;obtain⟨k2,hy⟩:=Go.Ev.zB au6;have awF:((cs.drop off).take (len*P.cellsOf e)).length=len*i.size:=bM;have holds:ck ax ((cs.drop off).take (len*P.cellsOf e)) ((arr.drop o').take (len*i.size)):=by
         rcases vl len with a7|a7
         .simp_all[A5,List.take_zero,ck.nil]
         .have ue:=hb al;have:=(b6.drop off).take (len*P.cellsOf e);grind[aeH]
       have awG:∀u∈(arr.drop o').take (len*i.size),u.oneCell'=true:=λu hu=>wP u (jx (lr hu));have awH:o'+len*i.size<=arr.length:=bM;have di:((cs.drop off).take (len*P.cellsOf e)++q.1).length=(len+n)*i.size:=bM;by_cases dt:len+n<=cap'
       ·
        have rR:(len+n)*i.size<=cap'*wd:=by rw[yv];exact sW _ dt
        have aeP:len*i.size+xs.length=(len+n)*i.size:=by rw[kp,kB]
        have bu:=kL.room hU p.g o' len cap' arr.toArray kb fz o.type hh Mm dt lu;have hE:=Go.Ev.uF w p.g (arr.take (o'+len*i.size)++xs++arr.drop (o'+len*i.size+xs.length)).toArray;have ai:=ah.kill id;have BU:(arr.take (o'+len*i.size)++xs++arr.drop (o'+len*i.size+xs.length)).length=arr.length:=lu;have aeT:¬B p.g:=by obtain⟨fk,hJ,_,a7⟩:=ah.obj id _ aB;rw[au]at hJ;cases hJ;exact a7
        refine⟨_,h,_,_,jI ax nid ⟨p.g,o',p.kP⟩,.inl (hex bu),su _ aJ,λj aP=>qA _ _ aP,?_,?_⟩
        .exact .bA nid 0 _ _ _ ⟨p.g,o',p.kP⟩ o' cap' (tH _ _ _) (dc _) dt v' (λ_=>rfl) (dc _) (by rw[<-tE];exact bp) al
        .refine ai.put aJ aL (Kept.H4 hE ah.ble λk ai=>by cases ai;exact aeT) (λj h9 cO oW Aa=>?_) aeT ?_ ?_
         .obtain⟨z1,M6⟩:=auK oW;have:cO.g≠p.g:=λe=>z1 (ah.inj j id h9 _ cO p M6 aB Aa au e);exact⟨hE.block _ (ah.lt j cO Aa) (λe=>this (by simpa using e)),this⟩
         .exact jK (ah.lt id p au) hE.size
         .refine⟨_,kb,fz,setRow_heap w p.g _ _ kb _ hh,by rw[BU];exact au3,λ_=>bM,bM,Io wP af,?_⟩;have bQ:((arr.take (o'+len*i.size)++xs++arr.drop (o'+len*i.size+xs.length)).drop o').take ((len+n)*i.size)=(arr.drop o').take (len*i.size)++xs:=by have bN:((arr.drop o').take ((len+n)*i.size)).drop ((len+n)*i.size)=[]:=GH bM;rw[aeM arr xs o' (len*i.size) ((len+n)*i.size) al al,aeP,bN,jy,List.take_take,Nat.min_eq_left (by rw[kB];omega)]
          rw[di,bQ];exact(holds.append gz).mono (su _ aJ)
       ·
        have bu:=kL.grow hU (some ⟨p.g,o',none⟩) len cap' ((arr.drop o').take (len*i.size)) o.type bM (λb ag j v aP=>by grind[Jd]) (λh=>cM) al al
         (by simp_all[Go.Ev.Ik])
        have dS:=Sp (rs:=id::q.2) ah aJ aL (sCap:=cap') hi fJ hq dJ nG (holds.append gz) (λu hu=>bM) di DS (hex bu);obtain⟨c2,ga,we,pr,ss,jR,zo,uQ⟩:=dS;refine⟨_,h,c2,ga,we,pr,ss,jR,by rw[<-cx];exact zo,?_⟩;have au7:=uQ.kill id;have awI:id≠nid:=λe=>bM;exact au7.look λj=>by grind[lD]
      .cases h
    .cases h
 .cases h
end ops
open Go.RowKit Go.MapKept
section ops
variable{aj:Type}{P:Program}{B:Nat->Prop}{w0 w:World}{df:List Deferred}{ax:du}{st:dG}{a:Act}{o:Oper}{nid:Nat}{y:jG->Option aj}{r:aj}
theorem au8{ax:du}{m:a8}(h:zeroV P t=some m):∃z,(zeroValue t).run P w=.ok z w/\cT ax m z:=by
 unfold zeroV at h;split at h
 .rename_i i hi;cases bp:i.zero with
  |none=>rw[bp]at h;cases h
  |some z=>rw[bp]at h;cases h;simp_all[zeroValue,typeInfo,Sd]
 .cases h
theorem aeU{w:World}{em:Bool}{n:Nat}{cs:List a8}{vs:List Value}(ar:ck ax cs vs):∀aC:List Field,(aC.all λf=>match P.underlying f.type,cs[f.offset]?with
  |some (.int j),some (.int et _)=>decide (j=et)
  |some .string,some (.str _)=>true
  |some .bool,some (.bool _)=>true
  |_,_=>false)=true->(forIn aC PUnit.unit λ(f:Field)(_:PUnit)=>(if f.name≠ "_" then part f.type vs.toArray f.offset>>=λx=>Instr.checkKey em (n+1) f.type x>>=λ_=>pure (ForInStep.yield PUnit.unit)else pure (ForInStep.yield PUnit.unit):Sem (ForInStep PUnit))).run P w=.ok PUnit.unit w
 |[],_=>rfl
 |f::aC,h=>by
  simp only[lq,ba]at h;obtain⟨a7,af⟩:=h;have ih:=aeU (w:=w) (em:=em) (n:=n) ar aC af;have key:∃d u,P.underlying f.type=some d/\isAggT P f.type=false/\vs[f.offset]?=some u/\IsKey d u:=by
   split at a7
   .rename_i j et m aQ aa;obtain⟨u,hu,aD⟩:=ar.at_ aa;exact⟨_,u,aQ,by simp[isAggT,aQ],hu,by rw[aD.eT];exact(bH a7).symm⟩
   .rename_i s aQ aa;obtain⟨u,hu,aD⟩:=ar.at_ aa;exact⟨_,u,aQ,by simp[isAggT,aQ],hu,by rw[aD.hO];trivial⟩
   .rename_i b aQ aa;obtain⟨u,hu,aD⟩:=ar.at_ aa;exact⟨_,u,aQ,by simp[isAggT,aQ],hu,by rw[aD.oP];trivial⟩
   .cases a7
  obtain⟨d,u,aX,qp,hu,ai⟩:=key;simp_all[part,Go.Ev.pC,run_checkKey]
theorem xv{bE:TypeId}{k:a8}(ai:yy P bE k=true)(ar:cT ax k u)(em:Bool):∃d,P.underlying bE=some d/\(Instr.checkKey em 10000 bE u).run P w=.ok () w/\((∃aC,d=.struct aC)\/IsKey d u):=by
 unfold yy at ai;split at ai
 .rename_i j et n aQ;have aeV:IsKey (.int j) u:=by rw[ar.eT];exact(bH ai).symm
  grind[run_checkKey]
 .rename_i s aQ;have aeV:IsKey .string u:=by rw[ar.hO];trivial
  grind[run_checkKey]
 .rename_i b aQ;have aeV:IsKey .bool u:=by rw[ar.oP];trivial
  grind[run_checkKey]
 .rename_i aC cs aQ;refine⟨_,aQ,?_,.inl ⟨aC,rfl⟩⟩;obtain⟨vs,rfl,b6,_⟩:=ar.mS;have:=aeU (P:=P) (em:=em) (n:=9998) (w:=w) b6 aC.toList ai;unfold Instr.checkKey;simp_all[cA]
 .cases ai
theorem Sq{bE:TypeId}{d:TypeDesc}{k:a8}{u:Value}(aX:P.underlying bE=some d)(ar:cT ax k u):∀(es:List (a8×a8×Nat))(xs:List MapEntry)(i:Nat)(res:Option (Nat×a8×Nat)),oI ax es xs->yz P bE k es i=some res->
  match res with
  |none=>Instr.findNow d u xs i=some none
  |some q=>∃x:MapEntry,Instr.findNow d u xs i=some (some (q.1,x.val))/\i<=q.1/\xs[q.1-i]?=some x/\cT ax q.2.1 x.val/\x.born=q.2.2/\x.key=u/\IsKey d u
 |[],[],i,res,_,h=>by simp[yz]at h;subst h;rfl
 |[],_::_,_,_,h,_=>h.elim
 |_::_,[],_,_,h,_=>h.elim
 |e::es,x::xs,i,res,cg,h=>by
  obtain⟨ka,xp,k2,uD⟩:=cg;have aeW:∀b,Sb P bE k e.1=some b->Instr.sameNow d u x.key=some b/\(b=true->x.key=u/\IsKey d u):=λb ag=>by
   unfold Sb at ag;generalize e.1=Ng at ag ka;split at ag
   .rename_i j awJ et awK aQ;rw[aX]at aQ;cases aQ;split at ag
    .rename_i au9;obtain⟨rfl,rfl⟩:=au9;cases ag;rw[ar.eT,ka.eT];refine⟨by simp[Instr.sameNow],λh=>?_⟩;have:=ic h;subst this;exact⟨rfl,rfl⟩
    .cases ag
   .rename_i aeX aeY aQ;rw[aX]at aQ;cases aQ;cases ag;rw[ar.hO,ka.hO];have e:((⟨aeX.toArray⟩:ByteArray)==⟨aeY.toArray⟩)=(aeX==aeY):=by grind[bytes_beq]
    exact⟨by simp[Instr.sameNow,e],λh=>by have:=ic h;subst this;exact⟨rfl,trivial⟩⟩
   .rename_i HF zd aQ;rw[aX]at aQ;cases aQ;cases ag;rw[ar.oP,ka.oP];exact⟨by simp[Instr.sameNow],λh=>by have:=ic h;subst this;exact⟨rfl,trivial⟩⟩
   .cases ag
  simp only[yz]at h;split at h
  .rename_i ag;cases h;obtain⟨af,ao⟩:=aeW _ ag;exact⟨x,by simp[Instr.findNow,af],dc _,bb,xp,k2,(ao rfl).1,(ao rfl).2⟩
  .rename_i ag;obtain⟨af,_⟩:=aeW _ ag;have ih:=Sq aX ar es xs (i+1) res uD h;grind[Instr.findNow]
  .cases h
def zp{w:World}{g:Nat}{es:Array MapEntry}(o:Obj)(ag:w.heap[g]?=some (.map es c)):(setObj g o).run P w=.ok () (w.putObj g o):=run_setObj_map o ag
def vI(w:World)(g:Nat)(o:Obj):w.grownBy (w.putObj g o) (some g):=⟨rfl,rfl,rfl,p7,λk _ bO=>World.putObj_heap_other (λe=>bO w7)⟩
def bU.HV(ah:bU B w0 w df ax st a){id:Nat}{f':List (a8×a8×Nat)}{c':Nat}{p:nj}{xs xs':List MapEntry}(aB:get st.h id=some (.map es c))(au:ax id=some p)(hh:w.heap[p.g]?=some (.map xs.toArray c))(cg:oI ax f' xs'):
  bU B w0 (w.putObj p.g (.map xs'.toArray c')) df ax ⟨st.tm,hV st.h (id,some (.map f' c')),st.nx⟩ a:=
 ah.mod aB au (vI w p.g _) ⟨xs',(heap_set hh).1,cg⟩
theorem bU.aeZ(ah:bU B w0 w df ax st a){id:Nat}(aB:get st.h id=some (.map es c))(hu:cT ax (.mp id) u):∃p xs,ax id=some p/\u=.map (some p.g)/\w.heap[p.g]?=some (.map xs.toArray c)/\oI ax es xs:=by
 cases hu with
 |mp _ p au=>obtain⟨fk,hJ,aw,_⟩:=ah.obj id _ aB;rw[au]at hJ;cases hJ;obtain⟨xs,af,ao⟩:=aw;grind
theorem oI.push{ax:du}:∀{es:List (a8×a8×Nat)}{xs:List MapEntry}{e:a8×a8×Nat}{x:MapEntry},oI ax es xs->cT ax e.1 x.key->cT ax e.2.1 x.val->x.born=e.2.2->oI ax (es++[e]) (xs++[x])
 |[],[],_,_,_,af,ao,a1=>⟨af,ao,a1,trivial⟩
 |_::_,_::_,_,_,h,af,ao,a1=>⟨h.1,h.2.1,h.2.2.1,oI.push h.2.2.2 af ao a1⟩
 |[],_::_,_,_,h,_,_,_=>h.elim
 |_::_,[],_,_,h,_,_,_=>h.elim
def oI.uC{ax:du}{v:a8}{u:Value}(ar:cT ax v u):∀{es:List (a8×a8×Nat)}{xs:List MapEntry}(i:Nat),oI ax es xs->oI ax (uC es i v) (xs.modify i λe=>{e with val:=u})
 |[],[],i,_=>by cases i<;>exact trivial
 |e::es,x::xs,0,h=>⟨h.1,ar,h.2.2.1,h.2.2.2⟩
 |e::es,x::xs,i+1,h=>⟨h.1,h.2.1,h.2.2.1,oI.uC ar i h.2.2.2⟩
 |[],_::_,_,h=>h.elim
 |_::_,[],_,h=>h.elim
theorem HU{xs:List MapEntry}{i:Nat}{x:MapEntry}(ak:xs[i]?=some x):(xs.modify i λe=>{e with key:=x.key,val:=u})=xs.modify i λe=>{e with val:=u}:=by apply yE;grind
theorem Ek(ah:bU B w0 w df ax st a){bE ey:TypeId}{k:Operand}{ok:Bool}{id:Nat}(aw:o.op=.lookup t x k ok)(aQ:P.underlying t=some (.map bE ey))(ai:yy P bE (bG st.tm k)=true)(ak:bG st.tm x=.mp id)(aB:get st.h id=some (.map es c))
  (aR:yz P bE (bG st.tm k) es 0=some res){v:a8}(ar:(∃q,res=some q/\v=q.2.1)\/(res=none/\zeroV P ey=some v)):
  ez P B w0 w df ax st a o nid {v:=bif ok then .tup [v,.bool res.isSome]else v,reads:=[id]}:=by
 have kJ:=e0 ah.tm x
 rw[ak]at kJ
 obtain⟨p,xs,au,hu,hh,cg⟩:=ah.aeZ aB kJ
 have jd:=e0 ah.tm k
 obtain⟨d,aX,nE,_⟩:=xv (P:=P) (w:=w) ai jd xs.isEmpty
 have tj:=Sq aX jd es xs 0 res cg aR
 obtain⟨val,fo,bu⟩:∃val,cT ax v val/\(Instr.lookup t (.map (some p.g)) (a.eval k) ok).run P w=.ok (if ok then .tuple #[val,.bool res.isSome]else val) w:=by
  rcases ar with⟨q,rfl,rfl⟩|⟨rfl,bp⟩
  .obtain⟨gH,g1,g2,g3,g4,g5,g6,g7⟩:=tj;refine⟨gH.val,g4,?_⟩;simp[Instr.lookup,cA aQ,rO hh,nE,run_findKey aX g1]
  .obtain⟨z,mT,El⟩:=au8 (ax:=ax) (w:=w) bp;refine⟨z,El,?_⟩;simp[Instr.lookup,cA aQ,rO hh,nE,run_findKey aX tj,mT]
 refine calm (u:=if ok then .tuple #[val,.bool res.isSome]else val) ah ?_ DO
 cases ok with
 |false=>simpa using fo
 |true=>
  have:=cT.tup (ax:=ax) [v,.bool res.isSome] [val,.bool res.isSome] rfl λj c u aa hu=>by
   match j with
   |0=>simp at aa hu;subst aa hu;exact fo
   |1=>simp at aa hu;subst aa hu;exact .bool _
   |j+2=>simp at aa
  exact this
theorem Nj(ah:bU B w0 w df ax st a){bE ey:TypeId}{m k:Operand}{id:Nat}(aw:o.op=.mapUpdate t m k x)(aQ:P.underlying t=some (.map bE ey))(ai:yy P bE (bG st.tm k)=true)(ak:bG st.tm m=.mp id)(aB:get st.h id=some (.map es c))
  (aR:yz P bE (bG st.tm k) es 0=some res){ae0:bT}(LM:ae0=match res with|some q=>.map (uC es q.1 (bG st.tm x)) c|none=>.map (es++[(bG st.tm k,bG st.tm x,c)]) (c+1)):
  ez P B w0 w df ax st a o nid {v:=.undef,reads:=[id],dv:=[(id,some ae0)]}:=by
 have kJ:=e0 ah.tm m
 rw[ak]at kJ
 obtain⟨p,xs,au,hu,hh,cg⟩:=ah.aeZ aB kJ
 have jd:=e0 ah.tm k
 have fo:=e0 ah.tm x
 obtain⟨d,aX,nE,_⟩:=xv (P:=P) (w:=w) ai jd false
 have tj:=Sq aX jd es xs 0 res cg aR
 cases res with
 |some q=>
  obtain⟨gH,g1,g2,g3,g4,g5,g6,g7⟩:=tj
  simp only at LM
  subst LM
  rw[Dz]at g3
  have dI:=ah.HV (c':=c) aB au hh (cg.uC fo q.1)
  refine⟨undef,_,ax,.inr ⟨?_,rfl⟩,Ext.refl _,λ_ _=>rfl,.undef,dI⟩
  have la:(Instr.keyThatStays (a.eval k) (a.eval k)).run P w=.ok (a.eval k) w:=run_keyThatStays g7
  have En:(xs.modify q.1 λe=>{key:=a.eval k,val:=a.eval x,born:=e.born})=xs.modify q.1 λe=>{e with val:=a.eval x}:=by have:=HU (u:=a.eval x) g3;rwa[g6]at this
  simp[execOp,aw,hu,Instr.mapUpdate,cA aQ,rO hh,nE,run_findKey aX g1,g3,g6,la,En,zp (P:=P) _ hh]
 |none=>
  simp only at LM
  subst LM
  have dI:=ah.HV (c':=c+1) (xs':=xs++[{key:=a.eval k,val:=a.eval x,born:=c}]) aB au hh (cg.push (e:=(bG st.tm k,bG st.tm x,c)) jd fo rfl)
  refine⟨undef,_,ax,.inr ⟨?_,rfl⟩,Ext.refl _,λ_ _=>rfl,.undef,dI⟩
  simp[execOp,aw,hu,Instr.mapUpdate,cA aQ,rO hh,nE,run_findKey aX tj,zp (P:=P) _ hh]
def BO{ax:du}{x y:a8}{v:Value}(h:cT ax x u)(h':cT ax y v):cT ax (.tup [x,y]) (.tuple #[u,v]):=cT.tup (ax:=ax) [x,y] [u,v] rfl λj c z aa hu=>bM
theorem Ni(ah:bU B w0 w df ax st a)(aJ:ax nid=none)(aL:nid<st.nx)(aw:o.op=.makeMap t none):ez P B w0 w df ax st a o nid {v:=.mp nid,dv:=[(nid,some (.map [] 0))]}:=by
 have ag:=Go.Ev.r9 w (.map #[] 0);refine⟨.map (some w.heap.size),w.alloc (.map #[] 0),jI ax nid ⟨w.heap.size,0,0⟩,.inl ?_,su _ aJ,λi hi=>qA _ _ hi,.mp nid ⟨w.heap.size,0,0⟩ (tH _ _ _),?_⟩
 .simp[execOp,aw,Instr.makeMap]
 .exact ah.new aJ aL ag (dc _) bb ⟨[],World.alloc_heap_new w _,trivial⟩
theorem ava(ah:bU B w0 w df ax st a)(aJ:ax nid=none)(aL:nid<st.nx)(aw:o.op=.range t x)(aQ:P.underlying t=some .string)(ak:bG st.tm x=.str s):ez P B w0 w df ax st a o nid {v:=.it nid,dv:=[(nid,some (.iter s 0))]}:=by
 have h:=e0 ah.tm x;rw[ak]at h;have ag:=Go.Ev.r9 w (.stringIter ⟨s.toArray⟩ 0);refine⟨.pointer (some ⟨w.heap.size,0,none⟩),w.alloc (.stringIter ⟨s.toArray⟩ 0),jI ax nid ⟨w.heap.size,0,0⟩,.inl ?_,su _ aJ,λi hi=>qA _ _ hi,.it nid ⟨w.heap.size,0,0⟩ (tH _ _ _),?_⟩
 .simp[execOp,aw,h.hO,Instr.range,cA aQ]
 .exact ah.new aJ aL ag (dc _) bb (World.alloc_heap_new w _)
def bU.iterAt(ah:bU B w0 w df ax st a){id:Nat}{q:Nat}(aB:get st.h id=some (.iter s q))(hu:cT ax (.it id) u):∃p,ax id=some p/\u=.pointer (some ⟨p.g,0,none⟩)/\w.heap[p.g]?=some (.stringIter ⟨s.toArray⟩ q):=by
 cases hu with
 |it _ p au=>obtain⟨fk,hJ,aw,_⟩:=ah.obj id _ aB;rw[au]at hJ;cases hJ;exact⟨p,au,rfl,aw⟩
theorem avb(ah:bU B w0 w df ax st a){id q:Nat}(aw:o.op=.next x true)(ak:bG st.tm x=.it id)(aB:get st.h id=some (.iter s q))(aH:q<s.length):
  ez P B w0 w df ax st a o nid {v:=.tup [.bool true,.int .i64 q,.int .i32 (decA s q).1],reads:=[id],dv:=[(id,some (.iter s (q+(decA s q).2)))]}:=by
 have kJ:=e0 ah.tm x
 rw[ak]at kJ
 obtain⟨p,au,hu,hh⟩:=ah.iterAt aB kJ
 have cx:(ByteArray.mk s.toArray).size=s.length:=vq
 have bu:=Go.Lib.run_next_any_at (P:=P) w p.g ⟨s.toArray⟩ q o.type hh (by rw[cx];exact aH)
 have hE:w.grownBy (w.iterAt p.g ⟨s.toArray⟩ (q+(Utf8.decode ⟨s.toArray⟩ q).2)) (some p.g):=⟨rfl,rfl,rfl,by simp[World.iterAt],λk _ ai=>Go.Lib.iterAt_other w p.g k _ _ (λe=>ai w7)⟩
 refine⟨.tuple #[.bool true,.int .i64 q,.int .i32 (Utf8.decode ⟨s.toArray⟩ q).1],_,ax,.inl DO,Ext.refl _,λ_ _=>rfl,?_,ah.mod aB au hE (Go.Lib.iterAt_heap w p.g _ q _ hh)⟩
 exact cT.tup (ax:=ax) [.bool true,.int .i64 (q:Nat),.int .i32 ((decA s q).1:Nat)] [.bool true,.int .i64 (q:Nat),.int .i32 ((Utf8.decode ⟨s.toArray⟩ q).1:Nat)] rfl λj c u aa hu=>by
  match j with
  |0=>simp at aa hu;subst aa hu;exact .bool _
  |1=>simp at aa hu;subst aa hu;exact .int _ _
  |2=>simp at aa hu;subst aa hu;exact .int _ _
  |j+3=>simp at aa
theorem avc(ah:bU B w0 w df ax st a){id q:Nat}(aw:o.op=.next x true)(ak:bG st.tm x=.it id)(aB:get st.h id=some (.iter s q))(aH:¬q<s.length):ez P B w0 w df ax st a o nid {v:=.tup [.bool false],reads:=[id]}:=by
 have kJ:=e0 ah.tm x;rw[ak]at kJ;obtain⟨p,au,hu,hh⟩:=ah.iterAt aB kJ;have cx:(ByteArray.mk s.toArray).size=s.length:=vq;have bu:=Go.Lib.run_next_end_at (P:=P) w p.g ⟨s.toArray⟩ q o.type hh (by rw[cx];exact aH);refine calm (u:=.tuple #[.bool false]) ah ?_ DO;exact cT.tup (ax:=ax) [.bool false] [.bool false] rfl λj c u aa hu=>by
  match j with
  |0=>simp at aa hu;subst aa hu;exact .bool _
  |j+1=>simp at aa
end ops
section ops
variable{aj:Type}{P:Program}{B:Nat->Prop}{w0 w:World}{df:List Deferred}{ax:du}{st:dG}{a:Act}{o:Oper}{nid:Nat}{y:jG->Option aj}{r:aj}
theorem N9(ah:bU B w0 w df ax st a)(aJ:ax nid=none)(aL:nid<st.nx){l c:Operand}{m:Int}(aw:o.op=.makeSlice t l c)(aQ:P.underlying t=some (.slice e))(ay:bG st.tm l=.int .i64 n)(aa:bG st.tm c=.int .i64 m)(gp:p1 P e=true)(yN:n<=m)(a7:0<=n)(h2:roomB m.toNat (P.bytesOf e)=true)(bp:sU P e m.toNat=some cs):
  ez P B w0 w df ax st a o nid {v:=.bA nid 0 n.toNat m.toNat (P.cellsOf e),dv:=[(nid,some (.cells false cs))]}:=by
 have zH:=e0 ah.tm l
 rw[ay]at zH
 have o1:=e0 ah.tm c
 rw[aa]at o1
 obtain⟨i,dz,hS,hi,fJ,dJ,hq,nF,cx,nG⟩:=Dv gp
 obtain⟨k2,hy⟩:=Go.Ev.zB h2
 obtain⟨dV,z2,z3⟩:=Gy hi fJ hq dJ nG ax m.toNat bp
 have HR:0<=m:=Int.le_trans a7 yN
 have vT:(i.bytes:Int)*m<=281474976710656:=bM
 have N':Go.madeCells dz.cells (m.toNat*i.size)=Builtin.zeroCells dz.cells m.toNat:=by grind[Go.madeCells,Builtin.zeroCells]
 have bu:=run_make (P:=P) w t e i dz aQ hi fJ .i64 .i64 n m a7 yN vT al
 rw[N']at bu
 have ag:=Go.Ev.r9 w (.cells (Builtin.zeroCells dz.cells m.toNat) e)
 have aB:(w.alloc (.cells (Builtin.zeroCells dz.cells m.toNat) e)).heap[w.heap.size]?=some (.cells ((Builtin.zeroCells dz.cells m.toNat).toList.toArray) e (0,0)):=World.alloc_heap_new w _
 have di:cs.length=m.toNat*i.size:=z3
 rw[<-cx]
 refine aeK (cap:=m.toNat) ah aJ aL ag bb aB (.inl rfl) (by rw[<-dV.1,AZ];exact dV) (by rw[dV.1];exact dc _) z2 al (dc _) DS (by rw[dV.1,di];exact dc _) dJ ?_
 simp only[execOp,aw,zH.eT,o1.eT,iL,lW,jX,bu]
theorem avd(ah:bU B w0 w df ax st a){e':TypeId}{id:Nat}{fV:Bool}(aw:o.op=.convert src dst x)(an:P.underlying src=some (.slice e))(aX:P.underlying dst=some (.slice e'))(ak:bG st.tm x=.bA id off len cap wd)(ave:src=dst)(ag:Go.Ev.td P e=true)(aB:get st.h id=some (.cells fV cs)):
  ez P B w0 w df ax st a o nid {v:=.bA id off len cap wd,reads:=[id],dv:=[(id,some (.cells fV cs))]}:=by
 have ar:=e0 ah.tm x
 rw[ak]at ar
 generalize hu:a.eval x=u at ar
 cases ar with
 |bA _ _ _ _ _ p o' cap' au ay aa hm ue Ob bp hw=>
  obtain⟨arr,t,fz,hh,cx,gV,hle,wP,b6⟩:=ah.cells aB au
  have aL:p.g<w.heap.size:=ah.lt id p au
  have HX:w.shape? p.g=some (t,arr.length):=by grind[World.shape?]
  have avf:∀k,k≠p.g->(w.freeze ⟨p.g,arr.length,none⟩ 1).heap[k]?=w.heap[k]?:=λk ai=>by grind[World.freeze]
  have awL:(w.freeze ⟨p.g,arr.length,none⟩ 1).heap.size=w.heap.size:=by simp_all[World.freeze,c0,decide]
  have hE:w.grownBy (w.freeze ⟨p.g,arr.length,none⟩ 1) (some p.g):=⟨by rfl,by rfl,by rfl,al,λk _ ai=>avf k (λe=>ai w7)⟩
  obtain⟨oV,sa,avg⟩:∃oV,(w.freeze ⟨p.g,arr.length,none⟩ 1).heap[p.g]?=some (.cells arr.toArray t oV)/\(fV=false->oV=(0,0)\/oV=(arr.length,arr.length+1)):=by
   obtain⟨lo,hi⟩:=fz;refine⟨if lo==hi then(arr.length,arr.length+1)else(min lo arr.length,max hi (arr.length+1)),?_,λaR=>?_⟩
   .unfold World.freeze;grind
   grind
  have B4:=Go.Ev.Iv ag
  subst ave
  rw[an]at aX
  cases aX
  have lB:(execOp a.eval o).run P w=.ok (.value (.slice (some ⟨p.g,o',none⟩) len cap')) (w.freeze ⟨p.g,arr.length,none⟩ 1):=by simp_all[execOp,convert,cA,markStringish]
  have dI:=ah.mod aB au hE (o':=.cells fV cs) ⟨arr,t,oV,sa,cx,avg,hle,wP,b6⟩
  exact⟨_,_,ax,.inl lB,Ext.refl _,λ_ _=>rfl,.bA _ _ _ _ _ p o' cap' au ay aa hm ue Ob bp hw,dI⟩
theorem avh(ah:bU B w0 w df ax st a)(aJ:ax nid=none)(aL:nid<st.nx)(aw:o.op=.convert src dst x)(an:P.underlying src=some .string)(aX:P.underlying dst=some (.slice e))(ak:bG st.tm x=.str s)(ag:Go.Ev.td P e=true)(ay:lenB s.length=true):
  ez P B w0 w df ax st a o nid {v:=.bA nid 0 s.length s.length 1,dv:=[(nid,some (.cells false (Dt s)))]}:=by
 have ar:=e0 ah.tm x
 rw[ak]at ar
 have B4:=Go.Ev.Iv ag
 have yN:s.length<=maxLen:=by have:=bH (show decide (s.length<=9223372036854775807)=true from ay);simp only[maxLen];omega
 have bu:=Lib.run_convert_string_bytes (P:=P) w src dst e ⟨s.toArray⟩ an aX B4
 have cx:(ByteArray.mk s.toArray).size=s.length:=vq
 rw[cx]at bu
 have xL:=yG w s.length 0 e
 have r':=yH w s.length 0 e yN
 have Ai:=Go.Ev.ahh w e ⟨s.toArray⟩
 have wW:Lib.bytesCells w e ⟨s.toArray⟩=(Lib.strCells ⟨s.toArray⟩++List.replicate (grownCap w s.length 0 e-s.length) (Value.int .u8 0)).toArray:=by grind[Lib.bytesCells,Array.ext',Lib.strCells]
 have mq:=Lib.bytesWorld_at_new w e ⟨s.toArray⟩
 rw[wW]at mq
 have Yz:(Lib.strCells ⟨s.toArray⟩).length=s.length:=by rw[Lib.strCells_length,cx]
 have awM:(Dt s).length=s.length:=by simp[Dt]
 refine Sj (cap:=grownCap w s.length 0 e) (us:=Lib.strCells ⟨s.toArray⟩++List.replicate (grownCap w s.length 0 e-s.length) (Value.int .u8 0)) (fz:=(_,_)) ah aJ aL Ai bM mq (.inr bb) ?_ bM (λu hu=>?_) xL r' bM al ?_
 .grind[Sl]
 .rcases gD.1 hu with h|h
  .exact DC _ u h
  .rw[(DB.1 h).2];rfl
 .simp only[execOp,aw,ar.hO,iL,lW,jX,bu]
def ae1{ax:du}:∀(cs:List a8)(xs:List Value)(s:List UInt8),Du cs=some s->ck ax cs xs->∃eY:List Int,xs=eY.map (Value.int .u8)/\s=eY.map λn=>UInt8.ofNat n.toNat
 |[],xs,s,h,ar=>by simp[Du]at h;subst h;exact⟨[],ar.gf,rfl⟩
 |c::cs,xs,s,h,ar=>by
  obtain⟨u,us,rfl,hu,e6⟩:=ar.inv;unfold Du at h;split at h
  .rename_i he;cases he
  .rename_i n ea he;cases he;split at h
   .rename_i l ay;cases h;obtain⟨eY,aU,bc⟩:=ae1 cs us l ay e6;exact⟨n::eY,by rw[hu.eT,aU];rfl,by rw[bc];rfl⟩
   .cases h
  .cases h
theorem Ix(ah:bU B w0 w df ax st a)(aw:o.op=.convert src dst x)(an:P.underlying src=some (.slice e))(aX:P.underlying dst=some .string)(ak:tD st.h 1 (bG st.tm x)=some q)(ag:Go.Ev.td P e=true)(aH:Du q.1=some s):
  ez P B w0 w df ax st a o nid {v:=.str s,reads:=q.2}:=by
 obtain⟨A,n,c,ad,xs,he,bq,gz,af,o0,hlen,hm⟩:=O2 ah ak (e0 ah.tm x)
 have B4:=Go.Ev.Iv ag
 obtain⟨eY,aU,rfl⟩:=ae1 q.1 xs s aH gz
 have ae2:eY.length=n:=by have:=gz.1;rw[hlen,aU,g',yF]at this;exact this
 have bu:(Conv.bytesToString (.slice A n c)).run P w=.ok (.string ⟨(eY.map λn=>UInt8.ofNat n.toNat).toArray⟩) w:=by
  rcases vl n with a7|a7
  .subst a7;have Iy:eY=[]:=pn ae2;subst Iy;cases A with
   |none=>rfl
   |some b=>rfl
  .rw[bq a7];have ay:=Ss (P:=P) w ad xs o0;rw[aU]at ay;have:=run_bytesToString (P:=P) w ad n c eY (by simpa[ae2]using ay);rw[this];have au:=Go.Ev.Oa eY [];rw[pj]at au;exact dh (λz=>Result.ok (Value.string z) w) au
 refine calm ah (.str _) ?_
 simp_all[convert,cA,execOp]
theorem EC(ah:bU B w0 w df ax st a){cE:List TypeId}{x:a8}{n:Nat}(aw:o.op=.call {callee:=.builtin .len,args:=args,argTypes:=ae})(h1:ae.toList=t::cE)(ak:iv st.tm args.toList=[x])
  (h:(P.underlying t=some .string/\∃s,x=.str s/\n=s.length)\/((∃e,P.underlying t=some (.slice e))/\((x=.bf/\n=0)\/∃i f c d,x=.bA i f n c d))):ez P B w0 w df ax st a o nid {v:=.int .i64 n}:=by
 obtain⟨u,hm,hu⟩:=LK ah ak
 have xd:ae[0]?=some t:=by rw[<-yB,h1];rfl
 refine calm ah (.int _ _) ?_
 rcases h with⟨aQ,s,rfl,rfl⟩|⟨⟨e,aQ⟩,⟨rfl,rfl⟩|⟨i,f,c,d,rfl⟩⟩
 .simp[execOp,aw,resolve,invoke,builtin,hm,Builtin.len_,xd,cA aQ,hu.hO,goInt,Go.Ev.size_mk]
 .simp[execOp,aw,resolve,invoke,builtin,hm,Builtin.len_,xd,cA aQ,hu.zY,goInt]
 .cases hu;exact TG
theorem avi(ah:bU B w0 w df ax st a){cE:List TypeId}(aw:o.op=.call {callee:=.builtin .cap,args:=args,argTypes:=ae})(h1:ae.toList=t::cE)(ak:iv st.tm args.toList=[.bf])(aQ:P.underlying t=some (.slice e)):ez P B w0 w df ax st a o nid {v:=.int .i64 0}:=by
 obtain⟨u,hm,hu⟩:=LK ah ak;have xd:ae[0]?=some t:=by rw[<-yB,h1];rfl
 refine calm ah (.int _ _) ?_;simp[execOp,aw,resolve,invoke,builtin,hm,Builtin.cap_,xd,cA aQ,hu.zY,goInt]
theorem NV(ah:bU B w0 w df ax st a){x:Int}{rest:List a8}(aw:o.op=.call {callee:=.builtin .min,args:=args,argTypes:=ae})(ak:iv st.tm args.toList=.int k x::rest)(aJ:minInt k x (a8.aA rest)=some n):ez P B w0 w df ax st a o nid {v:=.int k n}:=by have ar:=wb ah.tm args.toList;rw[ak]at ar;obtain⟨u,us,he,hu,an⟩:=ar.inv;have hm:=tl args _ he;refine calm ah (.int _ _) ?_;have:=Go.Ev.NS (P:=P) (w:=w) _ us x n aJ (an.aA w (λ_=>False) Go.Ev.cq);simp[execOp,aw,resolve,invoke,builtin,hm,Builtin.min_,hu.eT,this]
theorem NW(ah:bU B w0 w df ax st a){x:Int}{rest:List a8}(aw:o.op=.call {callee:=.builtin .max,args:=args,argTypes:=ae})(ak:iv st.tm args.toList=.int k x::rest)(aJ:maxInt k x (a8.aA rest)=some n):ez P B w0 w df ax st a o nid {v:=.int k n}:=by have ar:=wb ah.tm args.toList;rw[ak]at ar;obtain⟨u,us,he,hu,an⟩:=ar.inv;have hm:=tl args _ he;refine calm ah (.int _ _) ?_;have:=Go.Ev.NT (P:=P) (w:=w) _ us x n aJ (an.aA w (λ_=>False) Go.Ev.cq);simp[execOp,aw,resolve,invoke,builtin,hm,Builtin.max_,hu.eT,this]
theorem avj(ah:bU B w0 w df ax st a){z:a8}{id:Nat}(aw:o.op=.call {callee:=.builtin .copy,args:=args,argTypes:=ae})(h1:ae.toList=[t,b'])(ak:iv st.tm args.toList=[.bA id off len cap wd,z])
  (aQ:P.underlying t=some (.slice e))(aH:wh P st.h e b' z=some q)(o7:wd=P.cellsOf e)(gp:p1 P e=true)(aB:get st.h id=some (.cells false cs))(jL:off+min (q.1.length/wd) len*wd<=cs.length):
  ez P B w0 w df ax st a o nid {v:=.int .i64 (min (q.1.length/wd) len:Nat),reads:=id::q.2,dv:=[(id,some (.cells false (eM cs off (q.1.take (min (q.1.length/wd) len*wd)))))]}:=by
 obtain⟨u,v,hm,hu,ar⟩:=Sm ah ak
 obtain⟨i,dz,hS,hi,fJ,dJ,hq,nF,cx,nG⟩:=Dv gp
 obtain⟨n,xs,kL,gz,af,kp,hlen,avk⟩:=aeN ah aQ hi fJ cx aH ar
 have pL:q.1.length=n*i.size:=by rw[<-gz.1,kp]
 have yv:wd=i.size:=by rw[o7,cx]
 have LL:q.1.length/wd=n:=p7
 rw[LL]at jL⊢
 have mm:=Sn h1
 cases hu with
 |bA _ _ _ _ _ p o' cap' au ay aa v' hb an bp hw=>
  have awN:min n len*wd<=n*wd:=sW _ (Nat.min_le_left _ _)
  have avl:(q.1.take (min n len*wd)).length=min n len*wd:=bM
  have avm:=gz.take (min n len*wd)
  obtain⟨arr,kb,fz,hh,fx,dI⟩:=ah.write (P:=P) aB au (by rw[avl];exact jL) avm (λu hu=>af u (lr hu))
  have aR:=avk (min n len) (Nat.min_le_left _ _)
  rw[<-yv]at aR
  have bu:∃w',(Builtin.copy_ #[t,b'] o.type #[.slice (some ⟨p.g,o',none⟩) len cap',v]).run P w=.ok (.int .i64 (min n len:Nat)) w'/\bU B w0 w' df ax ⟨st.tm,hV st.h (id,some (.cells false (eM cs off (q.1.take (min n len*wd))))),st.nx⟩ a:=by
   have awO:Nat.min n len=min n len:=rfl;rcases vl (min n len)with a7|a7
   .refine⟨w,?_,?_⟩
    .rw[a7]at aR;simp only[A5,List.take_zero]at aR;simp[Builtin.copy_,cA aQ,hlen,sizeOf,typeInfo,hi,<-yv,a7,aR,storeCells,goInt]
    .refine ah.look λj=>?_;rw[lD];by_cases e:j=id
     .rw[dE e,e,aB,a7];simp[Go.Mi.eM]
     .rw[c0 e]
   .have ue:=hb al;simp_all[Builtin.copy_,cA,sizeOf,typeInfo,goInt]
  obtain⟨w',bu,zq⟩:=bu
  refine⟨_,w',ax,.inl ?_,Ext.refl _,λ_ _=>rfl,.int _ _,zq⟩
  simp_all[execOp,resolve,invoke,builtin]
theorem ae3(ah:bU B w0 w df ax st a){x:a8}(aw:o.op=.call {callee:=.builtin .clear,args:=args,argTypes:=ae})(h1:ae.toList=[t])(ak:iv st.tm args.toList=[x])(aQ:P.underlying t=some (.slice e))(h:x=.bf\/∃i f c d,x=.bA i f 0 c d):ez P B w0 w df ax st a o nid {v:=.undef}:=by
 obtain⟨u,hm,hu⟩:=LK ah ak;have mm:=aeO h1;refine calm ah .undef ?_;have bu:(Builtin.clear_ #[t] o.type #[u]).run P w=.ok undef w:=by rcases h with rfl|⟨i,f,c,d,rfl⟩<;>cases hu<;>simp[Builtin.clear_,cA aQ]<;>rfl
 exact Tx
theorem N8(ah:bU B w0 w df ax st a){id:Nat}{dL:List a8}(aw:o.op=.call {callee:=.builtin .clear,args:=args,argTypes:=ae})(h1:ae.toList=[t])(ak:iv st.tm args.toList=[.bA id off len cap wd])(aQ:P.underlying t=some (.slice e))(gp:p1 P e=true)(l5:0<len)
  (aB:get st.h id=some (.cells false cs))(bp:sU P e len=some dL)(jL:off+dL.length<=cs.length):ez P B w0 w df ax st a o nid {v:=.undef,reads:=[id],dv:=[(id,some (.cells false (eM cs off dL)))]}:=by
 obtain⟨u,hm,hu⟩:=LK ah ak
 have mm:=aeO h1
 obtain⟨i,dz,hS,hi,fJ,dJ,hq,nF,cx,nG⟩:=Dv gp
 obtain⟨dV,z2,z3⟩:=Gy hi fJ hq dJ nG ax len bp
 cases hu with
 |bA _ _ _ _ _ p o' cap' au ay aa v' hb an awP hw=>
  obtain⟨arr,kb,fz,hh,fx,dI⟩:=ah.write (P:=P) aB au jL dV z2
  have ue:=hb al
  refine⟨undef,_,ax,.inl ?_,Ext.refl _,λ_ _=>rfl,.undef,dI⟩
  obtain⟨len,rfl⟩:=LX (Nat.pos_iff_ne_zero.1 l5)
  have bu:(Builtin.clear_ #[t] o.type #[.slice (some ⟨p.g,o',none⟩) (len+1) cap']).run P w=.ok undef (w.setRow p.g (arr.take (p.fy+off)++(Builtin.zeroCells dz.cells (len+1)).toList++arr.drop (p.fy+off+(Builtin.zeroCells dz.cells (len+1)).toList.length)).toArray):=by rw[ue];simp only[Builtin.clear_,LY,sY,iL,cA aQ,jX,zeroValue,typeInfo,vk,hi,fJ,lW];rw[fx];rfl
  exact Tx
theorem avn(ah:bU B w0 w df ax st a)(aJ:ax nid=none)(aL:nid<st.nx)(aw:o.op=.call {callee:=.builtin .append,args:=args,argTypes:=ae})(h:Je P nid ae.toList (iv st.tm args.toList) st.h y=some r):∃e,y e=some r/\ez P B w0 w df ax st a o nid e:=by
 unfold Je at h;split at h
 .rename_i t b' x z h1 ak;split at h
  .rename_i e aQ;split at h
   .cases h
   .rename_i gp;have Vm:p1 P e=true:=by simpa using gp
    split at h
    .rename_i cl n pD;split at h
     .rename_i aa;simp only[ba,fD]at aa;grind[au1]
     .cases h
    grind[au2]
  .cases h
 .cases h
theorem avo(ah:bU B w0 w df ax st a)(aJ:ax nid=none)(aL:nid<st.nx){b:Builtin}(aw:o.op=.call {callee:=.builtin b,args:=args,argTypes:=ae})(h:Ct P nid b ae.toList (iv st.tm args.toList) st.h y=some r):∃e,y e=some r/\ez P B w0 w df ax st a o nid e:=by
 unfold Ct at h;split at h
 .grind[avn]
 .split at h
  .rename_i t cE x h1 ak;split at h
   .grind[EC]
   .rename_i e aQ;exact⟨_,h,EC (n:=0) ah aw h1 ak (.inr ⟨⟨e,aQ⟩,.inl ⟨rfl,rfl⟩⟩)⟩
   .grind[EC]
   .cases h
  .cases h
 .grind[avi]
 .split at h
  .rename_i t b' x z h1 ak;split at h
   .rename_i e aQ;split at h
    .cases h
    .rename_i q aH;split at h
     .rename_i id off len cap wd;split at h
      .cases h
      .rename_i aa;simp only[nr,jZ,not_or,DD]at aa;grind[avj,Nat.eq_of_beq_eq_true,Nat.le_of_ble_eq_true]
     .cases h
   .cases h
  .cases h
 .split at h
  .rename_i t x h1 ak;split at h
   .grind[ae3]
   .grind[ae3]
   .rename_i e id off len cap wd _ aQ;split at h
    .cases h
    .rename_i aa;simp only[nr,jZ,not_or,DD]at aa;grind[N8,Nat.le_of_ble_eq_true]
   .cases h
  .cases h
 .grind[NV]
 .grind[NW]
 .cases h
end ops
section ops
variable{aj:Type}{P:Program}{B:Nat->Prop}{w0 w:World}{df:List Deferred}{ax:du}{st:dG}{a:Act}{o:Oper}{nid:Nat}{y:jG->Option aj}{r:aj}
theorem e7{x:Option aj}(h:(bif b then x else none)=some r):b=true/\x=some r:=by cases b<;>simp_all
theorem ae4(h:(mx.isNone||hi.isSome)=true):mx=none\/hi≠none:=by cases mx<;>cases hi<;>simp_all
theorem EM(ah:bU B w0 w df ax st a)(aJ:ax nid=none)(aL:nid<st.nx)(h:b7 P nid o st.tm st.h y=some r):∃e,y e=some r/\ez P B w0 w df ax st a o nid e:=by
 unfold b7 at h;split at h
 .grind[Ez]
 .grind[Ez]
 .grind[Nw]
 .grind[Nx]
 .grind[Ny]
 .grind[N3]
 .rename_i t len parts aw;split at h
  .rename_i e aQ;split at h
   .cases h
   .rename_i aa;simp only[nr,jZ,not_or,DD,sV]at aa;grind[N5]
  .cases h
 .rename_i t x aw;split at h
  .rename_i id off ak;split at h
   .rename_i cs aa;exact ND ah aw ak aa h
   .cases h
  .cases h
 .rename_i t x z aw;split at h
  .rename_i aa;simp only[ba,h0,yI,ne_eq]at aa;grind[auT,Nat.le_of_ble_eq_true]
  .cases h
 .grind[NA]
 .rename_i op t x z aj9 aw;split at h
  .rename_i bp;split at h
   .rename_i e aQ ak;exact⟨_,h,B0 (b:=true) ah aw bp aQ (.inl ⟨ak,rfl⟩) (.inl rfl)⟩
   .rename_i e aQ ak;exact⟨_,h,B0 (b:=true) ah aw bp aQ (.inl ⟨ak,rfl⟩) (.inr rfl)⟩
   .rename_i e i1 i2 i3 i4 i5 aQ ak;exact⟨_,h,B0 (b:=false) ah aw bp aQ (.inr ⟨⟨_,_,_,_,_,ak⟩,rfl⟩) (.inl rfl)⟩
   .rename_i e i1 i2 i3 i4 i5 aQ ak;exact⟨_,h,B0 (b:=false) ah aw bp aQ (.inr ⟨⟨_,_,_,_,_,ak⟩,rfl⟩) (.inr rfl)⟩
   .cases h
  .split at h
   .grind[auS]
   .exact NH ah aw h
 .grind[NI,NJ,auR]
 .rename_i src dst x aw;split at h
  .grind[NK]
  .grind[NL]
  .rename_i e s an aX ak;split at h
   .rename_i aa;simp only[ba]at aa;grind[avh]
   .cases h
  .rename_i e an aX ak;split at h
   .rename_i ag;exact⟨_,h,Ix (q:=([],[])) ah aw an aX (by rw[ak];rfl) ag rfl⟩
   .cases h
  .rename_i e id off len cap wd an aX ak;split at h
   .rename_i aa;simp only[ba]at aa;split at h
    .grind[Ix]
    .cases h
   .cases h
  .rename_i e e' id off len cap wd an aX ak;split at h
   .rename_i aa;simp only[ba]at aa;grind[avd,Nat.eq_of_beq_eq_true]
   .cases h
  .cases h
 .grind[NB,auP]
 .grind[Ni]
 .rename_i t l c aw;split at h
  .rename_i e n m aQ ay aa;split at h
   .rename_i uS;simp only[ba,fD]at uS;grind[N9]
   .cases h
  .cases h
 .rename_i t x lo hi mx aw;split at h
  .rename_i s aQ ak;split at h
   .rename_i hm;have nJ:mx=none:=by simpa using hm
    subst nJ;split at h
    .rename_i l n ay hh;obtain⟨ag,h⟩:=e7 h;exact⟨_,h,NN ah aw aQ ak ay hh ag⟩
    .cases h
   .cases h
  .rename_i e aQ ak;split at h
   .rename_i l n m ay hh hm;split at h
    .rename_i aa;simp only[ba,h0]at aa;grind[auU,ae4]
    .cases h
   .cases h
  .rename_i e id off len cap wd aQ ak;split at h
   .cases h
   .rename_i o7;have tE:wd=P.cellsOf e:=cH (by simpa using o7);split at h
    .rename_i l n m ay hh hm;split at h
     .rename_i aa;simp only[ba,fD]at aa;grind[auV,ae4]
     .cases h
    .cases h
  .rename_i k e id off aQ ak;split at h
   .cases h
   .rename_i Ef;have avp:P.cellsOf e≠0:=λdw=>Ef (by rw[dw];rfl);split at h
    .rename_i l n cs ay hh aa;split at h
     .rename_i uS;simp only[ba,fD]at uS;obtain⟨a7,af,ao,a1,ca,dA⟩:=uS;have nJ:mx=none:=s5;subst nJ;have ai:=kA a7;exact⟨_,h,NP ah aw aQ ak avp aa (kA dA) ay hh ao a1 ca G2⟩
     .cases h
    .cases h
  .cases h
 .grind[BY]
 .rename_i t x f aw;split at h
  .rename_i dB fU;split at h
   .rename_i cs ak;exact NM ah aw fU ak h
   .cases h
  .cases h
 .rename_i t x i aw;split at h
  .rename_i k n hi;split at h
   .rename_i e id off len cap wd aQ ak;split at h
    .rename_i aa;simp only[ba]at aa;obtain⟨ag,h⟩:=e7 h;grind[auQ,Nat.eq_of_beq_eq_true]
    .cases h
   .rename_i len e id off aQ ak;split at h
    .rename_i aa;obtain⟨ag,h⟩:=e7 h;grind[NQ]
    .cases h
   .cases h
  .cases h
 .rename_i t x i aw;split at h
  .rename_i k n hi;split at h
   .exact TY
   .rename_i len e cs aQ ak;obtain⟨ag,h⟩:=e7 h;exact NR ah aw aQ ak hi ag h
   .cases h
  .cases h
 .grind[Nz]
 .grind[ava]
 .grind[Nat.blt,Nat.blt_eq,avb,avc]
 .rename_i t x k ok aw;split at h
  .rename_i bE ey aQ;split at h
   .cases h
   .rename_i ai;have hp:yy P bE (bG st.tm k)=true:=by simpa using ai
    split at h
    .rename_i id ak;split at h
     .rename_i es c aB;split at h
      .rename_i q aR;exact⟨_,h,Ek ah aw aQ hp ak aB aR (v:=q.2.1) (.inl ⟨q,rfl,rfl⟩)⟩
      .grind[Ek]
      .cases h
     .cases h
    .cases h
  .cases h
 .rename_i t m k x aw;split at h
  .rename_i bE ey aQ;split at h
   .cases h
   .rename_i ai;have hp:yy P bE (bG st.tm k)=true:=by simpa using ai
    grind[Nj]
  .cases h
 .grind[avo]
 .cases h
end ops
open Go.Ev (AV binInt binShift binStr lenB inb slb decA)
noncomputable def Jj(a b:List UInt8):Bool:=@List.rec UInt8 (λ_=>List UInt8->Bool) (λb=>@List.rec UInt8 (λ_=>Bool) true (λ_ _ _=>false) b) (λx _ ih b=>@List.rec UInt8 (λ_=>Bool) false (λy b _=>bif Nat.beq x.toNat y.toNat then ih b else false) b) a b
def Pz:∀(a b:List UInt8),Jj a b=(a==b)
 |[],[]=>rfl
 |[],_::_=>rfl
 |_::_,[]=>rfl
 |x::a,y::b=>by
  show(bif Nat.beq x.toNat y.toNat then Jj a b else false)=((x==y)&&(a==b));rw[Pz a b];have:Nat.beq x.toNat y.toNat=(x==y):=by rw[Bool.eq_iff_iff];simp only[wS,h0];exact⟨λh=>UInt8.toNat_inj.1 h,λh=>by rw[h]⟩
  rw[this];cases x==y<;>rfl
noncomputable def Py(a b:Int):Bool:=@Int.rec (λ_=>Bool) (λm=>@Int.rec (λ_=>Bool) (λn=>Nat.beq m n) (λ_=>false) b) (λm=>@Int.rec (λ_=>Bool) (λ_=>false) (λn=>Nat.beq n m) b) a
def akv(a b:Int):Py a b=(a==b):=by rw[Bool.eq_iff_iff,h0];cases a<;>cases b<;>simp only[Py,wS,Int.ofNat_eq_natCast,Int.negSucc_eq,p2,false_iff]<;>omega
def Cu:IntKind->Nat
 |.i8=>0
 |.i16=>1
 |.i32=>2
 |.i64=>3
 |.u8=>4
 |.u16=>5
 |.u32=>6
 |.u64=>7
def akt(k cl:IntKind):Nat.beq (Cu k) (Cu cl)=decide (k=cl):=by cases k<;>cases cl<;>rfl
open Go.Ev (AV Sh Summ Env Ex find entersB ancTab)
def jH:List (Nat×bT)->Nat->List (Nat×bT)
 |[],_=>[]
 |a::h,id=>bif Nat.beq a.1 id then h else a::jH h id
def l'(l:List a8)(d:Option Tmp)(v:a8):List a8:=
 match d with
 |some n=>l.set n v
 |none=>l
noncomputable def xT{aj:Type}(nid:Nat):Bool->List (Nat×Option bT)->List (Nat×bT)->(List (Nat×bT)->Option aj)->Option aj
 |_,[],h,k=>k h
 |de,(id,x)::rest,h,k=>bif de&&Nat.beq id nid then(match x with
   |some o=>xT nid false rest ((nid,o)::h) k
   |none=>none)
  else match x with
   |some o=>xT nid de rest ((id,o)::jH h id) k
   |none=>xT nid de rest (jH h id) k
abbrev h6:=(aj:Type)->Nat->List a8->List (Nat×bT)->Nat->(a8->List (Nat×bT)->Nat->Option aj)->Option aj
noncomputable def O4(h:List (Nat×bT)):a8->AV
 |.bf=>.bf (.int .u8)
 |.bA id off len cap wd=>match tD h 1 (.bA id off len cap wd)with
  |some q=>if q.1.all (λc=>match c with|.int .u8 _=>true|_=>false)then .ab (.int .u8) (a8.aA q.1)else if q.1.all (λc=>match c with|.str _=>true|_=>false)then .ab .str (a8.aA q.1)else .J
  |none=>.J
 |v=>v.h3
noncomputable def O5(h:List (Nat×bT)):List a8->List AV
 |[]=>[]
 |v::vs=>O4 h v::O5 h vs
noncomputable def I7(P:Program)(aq:Env)(call:h6)(g:Nat)(args:List a8)(h:List (Nat×bT))(nx:Nat)(k:a8->List (Nat×bT)->Nat->Option aj):Option aj:=
 if entersB P g then
  match find aq g with
  |some F=>F aj (O5 h args) λv=>match qQ v with
   |some m=>k m h nx
   |none=>none
  |none=>call aj g args h nx k
 else none
noncomputable def Ci(v:a8):List Nat->List Nat:=
 @a8.rec (λ_=>List Nat->List Nat) (λ_=>List Nat->List Nat) (λl=>l) (λl=>l) (λ_ _ l=>l) (λ_ l=>l) (λ_ l=>l) (λ_ l=>l) (λ_ ih=>ih) (λ_ ih=>ih)
  (λid _ l=>id::l) (λid _ _ _ _ l=>id::l) (λl=>l) (λ_ _ ih=>ih) (λ_ _ ih=>ih) (λid l=>id::l) (λid l=>id::l) (λid l=>id::l) (λl=>l) (λ_ _ HT UR l=>HT (UR l)) v
noncomputable def LN(cs:List a8)(l:List Nat):List Nat:=@List.rec a8 (λ_=>List Nat) l (λc _ ih=>Ci c ih) cs
noncomputable def avq(es:List (a8×a8×Nat))(l:List Nat):List Nat:=@List.rec (a8×a8×Nat) (λ_=>List Nat) l (λc _ ih=>Ci c.1 (Ci c.2.1 ih)) es
noncomputable def Ff(o:bT)(l:List Nat):List Nat:=
 match o with
 |.cells _ cs=>LN cs l
 |.map es _=>avq es l
 |.iter _ _=>l
 |.loop _ tm _ _ _=>LN tm l
noncomputable def xU{aj:Type}:Nat->List Nat->List (Nat×bT)->List (Nat×bT)->(List (Nat×bT)->List (Nat×bT)->Option aj)->Option aj
 |0,_,aD,rest,k=>k aD rest
 |_+1,[],aD,rest,k=>k aD rest
 |n+1,id::ws,aD,rest,k=>match get rest id with
  |some o=>xU n (Ff o ws) ((id,o)::aD) (jH rest id) k
  |none=>xU n ws aD (jH rest id) k
noncomputable def I9(nx:Nat)(h:List (Nat×bT))(k:List (Nat×bT)->List (Nat×bT)->Option aj):Option aj:=@List.rec (Nat×bT) (λ_=>(List (Nat×bT)->List (Nat×bT)->Option aj)->Option aj) (λk=>k [] []) (λa _ ih k=>ih λx y=>bif Nat.blt a.1 nx then k (a::x) y else k x (a::y)) h k
noncomputable def O'(h:List (Nat×bT))(l:List Nat):List Nat:=@List.rec (Nat×bT) (λ_=>List Nat) l (λa _ ih=>Ff a.2 ih) h
noncomputable def O9(nx:Nat)(v:a8)(h:List (Nat×bT))(k:List (Nat×bT)->Option aj):Option aj:=
 I9 nx h λld new=>match new with
  |[]=>k ld
  |a::l=>xU 3000 (Ci v (O' ld [])) ld (a::l) λh' _=>k h'
noncomputable def Pa(call:h6):h6:=λaj g args h nx k=>xU 3000 (LN args []) [] h λaD rest=>call aj g args aD nx λv h' fN=>O9 nx v h' λao=>k v (ao++rest) fN
noncomputable def k6(ops:List Oper)(tm:List a8)(j:Nat):a8:=
 match ops[j]?with
 |some o=>match o.dst with
  |some d=>nth tm d
  |none=>.J
 |none=>.J
def lx:Code->Bool
 |.seq a b=>lx a&&lx b
 |.cond _ a b=>lx a&&lx b
 |.block _ b=>lx b
 |.loop b=>lx b
 |.rangeFunc .. =>false
 |_=>true
abbrev tC:=(aj:Type)->Code->dG->(Ex->dG->Option aj)->Option aj
noncomputable def zZ:List Tmp->List a8->List a8->List a8
 |p::bj,v::vs,tm=>zZ bj vs (put v tm p)
 |_,_,tm=>tm
noncomputable def Fh(P:Program)(aq:Env)(call:h6)(round:tC)(nid:Nat)(o:Oper)(st:dG)(k:dG->Option aj):Option aj:=
 match o.op with
 |.call {callee:=.value f,args,argTypes:=_}=>
  match bG st.tm f with
  |.fn g gF=>I7 P aq call g (iv st.tm args.toList++gF) st.h st.nx λv h nx=>k ⟨l' st.tm o.dst v,h,nx⟩
  |.lR g first=>I7 P aq call g (first++iv st.tm args.toList) st.h st.nx λv h nx=>k ⟨l' st.tm o.dst v,h,nx⟩
  |.iq id=>
   match get st.h id with
   |some (.loop false tm bj assign body)=>
    if Nat.beq args.size bj.size&&(lx assign&&lx body)then
     round aj assign ⟨zZ bj.toList (iv st.tm args.toList) tm,st.h,st.nx⟩ λe eU=>match e with
     |.normal=>(match get eU.h id with
      |some (.loop false tm' Pe W2 W3)=>round aj body ⟨eU.tm,(id,.loop true tm' Pe W2 W3)::jH eU.h id,eU.nx⟩ λe hG=>match e with
       |.normal=>(match get hG.h id with
        |some (.loop true Jb W5 W6 W7)=>k ⟨l' st.tm o.dst (.bool true),(id,.loop false Jb W5 W6 W7)::jH hG.h id,hG.nx⟩
        |_=>none)
       |_=>none
      |_=>none)
     |_=>none
    else none
   |_=>none
  |_=>none
 |_=>b7 P nid o st.tm st.h λe=>xT nid true e.dv st.h λh=>k ⟨l' st.tm o.dst e.v,h,st.nx⟩
structure kf where
 reads:List Nat
 dv:List Nat
 call:Bool
noncomputable def sx(l:List Nat)(i:Nat):Bool:=@List.rec Nat (λ_=>Bool) false (λa _ ih=>bif Nat.beq a i then true else ih) l
noncomputable def z8(l m:List Nat):Bool:=@List.rec Nat (λ_=>Bool) true (λa _ ih=>bif sx m a then false else ih) l
noncomputable def Jf(a b:kf):Bool:=bif a.call&&b.call then false else bif z8 a.dv b.reads then(bif z8 a.dv b.dv then z8 b.dv a.reads else false)else false
noncomputable def Ck(aD:List (Nat×bT))(id:Nat):Bool:=@List.rec (Nat×bT) (λ_=>Bool) false (λa _ ih=>bif Nat.beq a.1 id then true else ih) aD
noncomputable def Cl:Nat->List Nat->List (Nat×bT)->List (Nat×bT)->Option (List (Nat×bT))
 |0,_,_,_=>none
 |_+1,[],acc,_=>some acc
 |n+1,id::ws,acc,h=>bif Ck acc id then Cl n ws acc h else match get h id with
  |some o=>Cl n (Ff o ws) ((id,o)::acc) h
  |none=>none
noncomputable def tJ(P:Program)(aq:Env)(call:h6)(g:Nat)(args:List a8)(h:List (Nat×bT))(nx:Nat):Option (jG×Nat×Bool):=
 if entersB P g then
  match find aq g with
  |some F=>F (jG×Nat×Bool) (a8.aA args) λv=>match qQ v with
   |some m=>some ({v:=m},nx,false)
   |none=>none
  |none=>match Cl 3000 (LN args []) [] h with
   |some aD=>match call (a8×List (Nat×bT)×Nat) g args aD nx λv h n=>some (v,h,n)with
    |some q=>some ({v:=q.1,reads:=aD.map (·.1),dv:=aD.map (λp=>(p.1,none))++q.2.1.map λp=>(p.1,some p.2)},q.2.2,true)
    |none=>none
   |none=>none
 else none
noncomputable def qB(P:Program)(aq:Env)(call:h6)(nid:Nat)(o:Oper)(tm:List a8)(h:List (Nat×bT))(nx:Nat):Option (jG×Nat×Bool):=
 match o.op with
 |.call {callee:=.value f,args,argTypes:=_}=>
  match bG tm f with
  |.fn g gF=>tJ P aq call g (iv tm args.toList++gF) h nx
  |.lR g first=>tJ P aq call g (first++iv tm args.toList) h nx
  |_=>none
 |_=>match b7 P nid o tm h some with
  |some e=>some (e,nx,false)
  |none=>none
noncomputable def mZ(P:Program)(aq:Env)(call:h6)(ops:List Oper)(nid:Nat)(o:Oper)(tm:List a8)(h:List (Nat×bT))(nx:Nat):Option (jG×Nat×Bool):=
 match o.guard with
 |none=>qB P aq call nid o tm h nx
 |some (j,want)=>
  match k6 ops tm j with
  |.bool b=>bif b==want then qB P aq call nid o tm h nx else some ({v:=.undef},nx,false)
  |.undef=>some ({v:=.undef},nx,false)
  |_=>none
noncomputable def mA(dst:Option Tmp)(e:jG)(nx:Nat)(st:dG):dG:=⟨l' st.tm dst e.v,e.dv.foldl hV st.h,nx⟩
noncomputable def Sr(o:Oper)(st:dG)(k:dG->Option aj):Option aj:=
 match st with
 |⟨tm,h,nx⟩=>k ⟨l' tm o.dst .undef,h,nx⟩
noncomputable def gI{aj:Type}(P:Program)(aq:Env)(call:h6)(round:tC)(base:Nat)(ops:List Oper)(k:dG->Option aj):Nat->List Oper->dG->Option aj
 |_,[],st=>k st
 |i,o::rest,st=>
  match o.guard with
  |none=>Fh P aq call round (base+i) o st (gI P aq call round base ops k (i+1) rest)
  |some (j,want)=>
   match k6 ops st.tm j with
   |.bool b=>bif b==want then Fh P aq call round (base+i) o st (gI P aq call round base ops k (i+1) rest)
    else Sr o st (gI P aq call round base ops k (i+1) rest)
   |.undef=>Sr o st (gI P aq call round base ops k (i+1) rest)
   |_=>none
noncomputable def Cn{aj:Type}(P:Program)(aq:Env)(call:h6)(base:Nat)(ops:List Oper)(k:dG->List kf->Option aj):Nat->List Oper->dG->List kf->Option aj
 |_,[],st,aC=>k st aC
 |i,o::rest,st,aC=>
  match mZ P aq call ops (base+i) o st.tm st.h st.nx with
  |some q=>xT 0 false q.1.dv st.h λh=>Cn P aq call base ops k (i+1) rest ⟨l' st.tm o.dst q.1.v,h,q.2.1⟩ (aC++[⟨q.1.reads,q.1.dv.map (·.1),q.2.2⟩])
  |none=>none
noncomputable def Jg(p:Nat->kf->Bool)(aC:List kf):Nat->Bool:=@List.rec kf (λ_=>Nat->Bool) (λ_=>true) (λf _ ih i=>bif p i f then ih (Nat.succ i)else false) aC
noncomputable def z'(l:List (List Nat)):Nat->List Nat:=@List.rec (List Nat) (λ_=>Nat->List Nat) (λ_=>[]) (λa _ ih n=>@Nat.rec (λ_=>List Nat) a (λm _=>ih m) n) l
noncomputable def Ji(tab:List (List Nat))(i j:Nat):Bool:=bif Nat.blt i j then sx (z' tab j) i else sx (z' tab i) j
noncomputable def Jh(ops:Array Oper):Bool:=
 (List.range ops.size).all λj=>
  ((ops[j]?).map λb=>b.after.all λe=> !Region.binds .any e||Nat.blt e.on j).getD false&&
  (List.range j).all λi=>sx (z' (ancTab ops.toList) j) i||(match ops[i]?,ops[j]?with
   |some a,some b=>Oper.apart ops a b
   |_,_=>false)
noncomputable def Pw(tab:List (List Nat))(aC:List kf):Bool:=Jg (λj f=>bif f.dv.isEmpty&& !f.call then true else Jg (λi g=>bif Nat.beq i j then true else bif Ji tab i j then true else Jf f g) aC 0) aC 0
noncomputable def xW(ops:Array Oper)(aC:List kf):Bool:=bif Jh ops then(bif Nat.beq aC.length ops.size then Pw (ancTab ops.toList) aC else false)else false
noncomputable def Pk(f:(aj:Type)->dG->(Ex->dG->Option aj)->Option aj):Nat->(aj:Type)->dG->(Ex->dG->Option aj)->Option aj
 |0,_,_,_=>none
 |n+1,aj,st,k=>f aj st λe bB=>match e with
  |.normal=>Pk f n aj bB k
  |e=>k e bB
def Pj:Nat:=3000
noncomputable def er(P:Program)(aq:Env)(call:h6)(round:tC):Code->(aj:Type)->dG->(Ex->dG->Option aj)->Option aj
 |.skip,_,st,k=>k .normal st
 |.label _,_,st,k=>k .normal st
 |.region _ ops draw,_,st,k=>
  match st with
  |⟨tm0,a7,oG⟩=>
  if draw then Cn P aq call oG ops.toList (λbB aC=>if xW ops aC then k .normal bB else none) 0 ops.toList ⟨tm0,a7,oG+ops.size⟩ []
  else gI P aq call round oG ops.toList (λbB=>k .normal bB) 0 ops.toList ⟨tm0,a7,oG+ops.size⟩
 |.seq a b,aj,st,k=>er P aq call round a aj st λe bB=>match e with
  |.normal=>er P aq call round b aj bB k
  |e=>k e bB
 |.cond c a b,aj,st,k=>
  match bG st.tm c with
  |.bool t=>bif t then er P aq call round a aj st k else er P aq call round b aj st k
  |_=>none
 |.block id b,aj,st,k=>er P aq call round b aj st λe bB=>match e with
  |.exit i=>if i=id then k .normal bB else k (.exit i) bB
  |e=>k e bB
 |.loop b,aj,st,k=>Pk (λaj st k=>er P aq call round b aj st k) Pj aj st k
 |.exit id,_,st,k=>k (.exit id) st
 |.ret,_,st,k=>k .ret st
 |.rangeFunc g bj assign body,aj,st,k=>
  match st with
  |⟨tm0,a7,oG⟩=>
  match bG tm0 g with
  |.fn iB gF=>if entersB P iB&&Go.Ev.hasBody P iB then call aj iB (.iq oG::gF) ((oG,.loop false tm0 bj assign body)::a7) (oG+1) λ_ h nx=>match get h oG with
   |some (.loop false _ _ _ _)=>k .normal ⟨tm0,jH h oG,nx⟩
   |_=>none
   else none
  |_=>none
 |_,_,_,_=>none
section eqs
variable{aj:Type}{P:Program}{aq:Env}{call:h6}{round:tC}
def ajB(o:Oper)(st:dG)(k:dG->Option aj):Sr o st k=k ⟨l' st.tm o.dst .undef,st.h,st.nx⟩:=by cases st;rfl
def ajD(id:Nat)(ops:Array Oper)(draw:Bool)(st:dG)(k:Ex->dG->Option aj):er P aq call round (.region id ops draw) aj st k=
 if draw then Cn P aq call st.nx ops.toList (λbB aC=>if xW ops aC then k .normal bB else none) 0 ops.toList ⟨st.tm,st.h,st.nx+ops.size⟩ []
 else gI P aq call round st.nx ops.toList (λbB=>k .normal bB) 0 ops.toList ⟨st.tm,st.h,st.nx+ops.size⟩:=by cases st;rfl
def ajG(g:Operand)(bj:Array Tmp)(assign body:Code)(st:dG)(k:Ex->dG->Option aj):er P aq call round (.rangeFunc g bj assign body) aj st k=
 match bG st.tm g with
 |.fn iB gF=>if entersB P iB&&Go.Ev.hasBody P iB then call aj iB (.iq st.nx::gF) ((st.nx,.loop false st.tm bj assign body)::st.h) (st.nx+1) λ_ h nx=>match get h st.nx with
  |some (.loop false _ _ _ _)=>k .normal ⟨st.tm,jH h st.nx,nx⟩
  |_=>none
  else none
 |_=>none:=by cases st;rfl
end eqs
noncomputable def Pn(P:Program)(st:dG)(si:ResultVar)(k:a8->Option aj):Option aj:=
 match si with
 |.tmp t=>k (nth st.tm t)
 |.cell t ty=>
  match nth st.tm t with
  |.ptr id off=>match rr st.h id with
   |some cs=>tI P ty (cs.drop off) k
   |none=>none
  |_=>none
noncomputable def z6{aj:Type}(P:Program)(st:dG):List ResultVar->(List a8->Option aj)->Option aj
 |[],k=>k []
 |r::rs,k=>Pn P st r λv=>z6 P st rs λvs=>k (v::vs)
def Fm:List a8->a8
 |[v]=>v
 |vs=>.tup vs
noncomputable def ae5(P:Program)(fn:Func)(st:dG)(k:a8->List (Nat×bT)->Nat->Option aj):Option aj:=
 match st with
 |⟨tm,h,nx⟩=>z6 P ⟨tm,h,nx⟩ fn.results.toList λvs=>k (Fm vs) h nx
def Xf(P:Program)(fn:Func)(st:dG)(k:a8->List (Nat×bT)->Nat->Option aj):ae5 P fn st k=z6 P st fn.results.toList λvs=>k (Fm vs) st.h st.nx:=by cases st;rfl
noncomputable def Po(P:Program)(aq:Env)(call:h6)(round:tC):h6:=λaj g args h nx k=>
 match P.funcs[g]?with
 |some fn=>
  match fn.body with
  |some c=>er P aq call round c aj ⟨args++List.replicate (fn.ntmps-args.length) .J,h,nx⟩ λe st=>match e with
   |.exit _=>none
   |_=>ae5 P fn st k
  |none=>none
 |none=>none
noncomputable def jS(P:Program)(aq:Env)(wg:h6->h6):Nat->h6×tC
 |0=>(λ_ _ _ _ _ _=>none,λ_ _ _ _=>none)
 |n+1=>(Pa<|wg<|Po P aq (jS P aq wg n).1 (jS P aq wg n).2,λaj c st k=>er P aq (jS P aq wg n).1 (jS P aq wg n).2 c aj st k)
end Go.Mi
