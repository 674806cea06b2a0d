/-
  The document: a message's bytes.
-/
import Derived.Test.YtijdnecnjenleaaGreatDoorKpY
set_option linter.all false
namespace Go.Proofs.YtijdnecnjenleaaGreatDoor
open IntKind
open Go.Ev
open Tryz
variable{K:List (Nat×Ev.Loop)}{a:List (List UInt8×List AV)}
def u9(nU:Int)(nV:Int)(nW:Bool)(nX:Nat)(nY:Int)(nZ:List UInt8)(n1:List AV)(n2:List UInt8)(n5:List AV)(n7:List AV)(n8:Int)(n9:Int)(n':Int)(oa:List AV)(ob:Int)(oc:List UInt8)(od:List AV)(oe:List UInt8)(oh:List AV)(oi:List AV)(oj:Int)(om:Int)(oo:Int)(oq:List AV)(ot:Int)(ou:List UInt8)(ov:List AV)(ow:List UInt8)(oy:List AV)(oA:List AV)(oB:Int)(oC:Int)(oD:Int)(oE:List AV):List AV:=.tup [.int .i64 2]:: .J:: .J:: .J:: .J:: .J:: .ptr 1125899906842625 0:: .J:: .J:: .ptr 1125899906842626 0:: .ptr 1125899906842628 0:: .ptr 1125899906842630 0:: .J:: .ptr 1125899906842632 0:: .J:: .J:: .J:: .J:: .J:: .J:: .J:: .J:: .J:: .J:: .J:: .J:: .J:: .J:: .J:: .J:: .J:: .J:: .J:: .J:: .J:: .J:: .own 1125899906842633:: .int .i64 nU:: .int .i64 nV:: .bool nW:: .eptr 1125899906842633 nX 0:: .agg [.int .i64 nY,.str nZ,.ab (.agg [.str,.int .i64]) n1,.str n2,.ab (.agg [.str,.str]) n5,.ab (.int .u8) n7,.int .i64 n8,.int .i64 n9,.int .i64 n',.ab (.agg [.str,.int .i64,.int .i64,.bool]) oa]:: .agg [.int .i64 ob,.str oc,.ab (.agg [.str,.int .i64]) od,.str oe,.ab (.agg [.str,.str]) oh,.ab (.int .u8) oi,.int .i64 oj,.int .i64 om,.int .i64 oo,.ab (.agg [.str,.int .i64,.int .i64,.bool]) oq]:: .fn 73 [.ref [.int .i64 ot,.str ou,.ab (.agg [.str,.int .i64]) ov,.str ow,.ab (.agg [.str,.str]) oy,.ab (.int .u8) oA,.int .i64 oB,.int .i64 oC,.int .i64 oD,.ab (.agg [.str,.int .i64,.int .i64,.bool]) oE]]:: .J:: .J:: .J:: .J:: .J:: .J:: .J:: .J:: .J:: .J:: .J:: .J::[.J,.J,.J,.J,.J,.J,.J,.J,.J,.J,.J,.J,.J,.J,.J,.J]
def yk(c4:Int)(de:List UInt8)(cE:List AV)(dH:List UInt8)(aD:List AV)(cY:List AV)(r1:Int)(cQ:Int)(c6:Int)(wr:List AV):AV:=.ref [.int .i64 c4,.str de,.ab (.agg [.str,.int .i64]) cE,.str dH,.ab (.agg [.str,.str]) aD,.ab (.int .u8) cY,.int .i64 r1,.int .i64 cQ,.int .i64 c6,.ab (.agg [.str,.int .i64,.int .i64,.bool]) wr]
def Ri{l:List AV}(h:kS mG l=true):∃nU nV nW nX nY nZ n1 n2 n5 n7 n8 n9 n' oa ob oc od oe oh oi oj om oo oq ot ou ov ow oy oA oB oC oD oE,l=u9 nU nV nW nX nY nZ n1 n2 n5 n7 n8 n9 n' oa ob oc od oe oh oi oj om oo oq ot ou ov ow oy oA oB oC oD oE:=by obtain⟨nU,nV,nW,nX,nY,nZ,n1,n2,n5,n7,n8,n9,n',oa,ob,oc,od,oe,oh,oi,oj,om,oo,oq,ot,ou,ov,ow,oy,oA,oB,oC,oD,oE,rfl⟩:=aai h;exact⟨_,_,_,_,_,_,_,_,_,_,_,_,_,_,_,_,_,_,_,_,_,_,_,_,_,_,_,_,_,_,_,_,_,_,rfl⟩
def ins(d:List UInt8)(j:Int):List (List UInt8×List AV)->List (List UInt8×List AV)
 |[]=>[(d,[.int .i64 j])]
 |(k,l)::st=>bif d==k then(k,l++[.int .i64 j])::st else(k,l)::ins d j st
def tY(j:Nat)(st:List (List UInt8×List AV))(w:AV):List (List UInt8×List AV):=bif dC w==0 then ins (cC (bm w)) j st else st
def iy:Nat->List AV->List (List UInt8×List AV)->List (List UInt8×List AV)
 |_,[],st=>st
 |j,w::ws,st=>iy (j+1) ws (tY j st w)
def Gh{ws:List AV}{j:Nat}(h:j<ws.length)(st:List (List UInt8×List AV)):iy j (ws.drop j) st=iy (j+1) (ws.drop (j+1)) (tY j st (ws.getD j .J)):=by rw[rP h,List.getD,fC h];rfl
def ach:Nat->List (List UInt8×List AV)->List AV
 |_,[]=>[]
 |m,(k,_)::st=>.tup [.str k,.own (9991+m)]::ach (m+1) st
def Ll(st:List (List UInt8×List AV))(m:Nat):Option Row:=(st[m]?).map λp=>.arr false gm 3 p.2 none
def arZ(st:List (List UInt8×List AV)):List (Option Row):=[some (.box false [.tup (ach 0 st)]),some (.arr false .str 9 (st.map λp=>.str p.1) none),Ll st 0,Ll st 1,Ll st 2,Ll st 3]
def pe(rec:List AV)(dn:Int)(c2:Int)(ms:List AV)(us:List AV)(out:List AV)(dk:List AV)(dY:Int)(fc:List UInt8)(fe:List AV)(ff:List UInt8)(au:List AV)(eK:List AV)(cF:Int)(d':Int)(fg:Int)(wp:List AV)(st:List (List UInt8×List AV)):List (Option Row):=[some (.box false rec),some (.box false [.int .i64 dn,.int .i64 c2]),some (.box false [.own 1125899906842627]),some (.box false [.ct ms]),some (.box false [.own 1125899906842629]),some (.box false [.ct us]),some (.box false [.own 1125899906842631]),some (.arr false (.agg [.int .i64,.str,.slice (.int .i64)]) 49 out none),some (.box false [.int .i64 dY,.str fc,.ab (.agg [.str,.int .i64]) fe,.str ff,.ab (.agg [.str,.str]) au,.ab (.int .u8) eK,.int .i64 cF,.int .i64 d',.int .i64 fg,.ab (.agg [.str,.int .i64,.int .i64,.bool]) wp]),some (.arr false (.agg [.int .i64,.str,.slice (.agg [.str,.int .i64]),.str,.slice (.agg [.str,.str]),.slice (.int .u8),.int .i64,.int .i64,.int .i64,.slice (.agg [.str,.int .i64,.int .i64,.bool])]) 89 dk none)]++arZ st
def aci(v1:AV)(AJ:List (List UInt8×List AV)->List (Option Row))(ws:List AV)(i:Int)(rs:List (Option Row)):a6 cy:=match rs with
 |[some (.box false [.tup []]),some (.arr false .str 9 [] none),none,none,none,none]=>.bt (decide ((0:Int)<=i)) (.leaf (.exit 0,[.own aE,v1,.own 9990,.own 64,.ab fW ws,.int .i64 ws.length,.int .i64 ws.length],AJ (iy i.toNat (ws.drop i.toNat) [])))
 |[some (.box false [.tup [.tup [.str gM,.own q1]]]),some (.arr false .str 9 [.str bJ] none),some (.arr false (.int .i64) 3 b1 none),none,none,none]=>.bt ((decide ((1:Int)<=i)&&(Nat.beq q1 9991&&(bJ==gM&&(!b1.isEmpty&&decide ((b1.length:Int)<=i)))))) (.leaf (.exit 0,[.own aE,v1,.own 9990,.own 64,.ab fW ws,.int .i64 ws.length,.int .i64 ws.length],AJ (iy i.toNat (ws.drop i.toNat) [(gM,b1)])))
 |[some (.box false [.tup [.tup [.str gM,.own q1],.tup [.str kW,.own cO]]]),some (.arr false .str 9 [.str bJ,.str a2] none),some (.arr false (.int .i64) 3 b1 none),some (.arr false (.int .i64) 3 cS none),none,none]=>.bt ((decide ((2:Int)<=i)&&((Nat.beq q1 9991&&(bJ==gM&&(!b1.isEmpty&&decide ((b1.length:Int)<=i))))&&(Nat.beq cO 9992&&(a2==kW&&(!cS.isEmpty&&decide ((cS.length:Int)<=i))))))) (.leaf (.exit 0,[.own aE,v1,.own 9990,.own 64,.ab fW ws,.int .i64 ws.length,.int .i64 ws.length],AJ (iy i.toNat (ws.drop i.toNat) [(gM,b1),(kW,cS)])))
 |[some (.box false [.tup [.tup [.str gM,.own q1],.tup [.str kW,.own cO],.tup [.str tW,.own mR]]]),some (.arr false .str 9 [.str bJ,.str a2,.str a3] none),some (.arr false (.int .i64) 3 b1 none),some (.arr false (.int .i64) 3 cS none),some (.arr false (.int .i64) 3 fq none),none]=>.bt ((decide ((3:Int)<=i)&&((Nat.beq q1 9991&&(bJ==gM&&(!b1.isEmpty&&decide ((b1.length:Int)<=i))))&&((Nat.beq cO 9992&&(a2==kW&&(!cS.isEmpty&&decide ((cS.length:Int)<=i))))&&(Nat.beq mR 9993&&(a3==tW&&(!fq.isEmpty&&decide ((fq.length:Int)<=i)))))))) (.leaf (.exit 0,[.own aE,v1,.own 9990,.own 64,.ab fW ws,.int .i64 ws.length,.int .i64 ws.length],AJ (iy i.toNat (ws.drop i.toNat) [(gM,b1),(kW,cS),(tW,fq)])))
 |[some (.box false [.tup [.tup [.str gM,.own q1],.tup [.str kW,.own cO],.tup [.str tW,.own mR],.tup [.str uI,.own Eg]]]),some (.arr false .str 9 [.str bJ,.str a2,.str a3,.str a4] none),some (.arr false (.int .i64) 3 b1 none),some (.arr false (.int .i64) 3 cS none),some (.arr false (.int .i64) 3 fq none),some (.arr false (.int .i64) 3 tU none)]=>.bt ((decide ((4:Int)<=i)&&((Nat.beq q1 9991&&(bJ==gM&&(!b1.isEmpty&&decide ((b1.length:Int)<=i))))&&((Nat.beq cO 9992&&(a2==kW&&(!cS.isEmpty&&decide ((cS.length:Int)<=i))))&&((Nat.beq mR 9993&&(a3==tW&&(!fq.isEmpty&&decide ((fq.length:Int)<=i))))&&(Nat.beq Eg 9994&&(a4==uI&&(!tU.isEmpty&&decide ((tU.length:Int)<=i))))))))) (.leaf (.exit 0,[.own aE,v1,.own 9990,.own 64,.ab fW ws,.int .i64 ws.length,.int .i64 ws.length],AJ (iy i.toNat (ws.drop i.toNat) [(gM,b1),(kW,cS),(tW,fq),(uI,tU)])))
 |_=>.no
def acj(p q1 cO:Nat)(ws:List AV)(n i:Int)(c4:Int)(de:List UInt8)(cE:List AV)(dH:List UInt8)(aD:List AV)(cY:List AV)(r1:Int)(cQ:Int)(c6:Int)(wr:List AV)(rec:List AV)(dn:Int)(c2:Int)(b2:Nat)(ms:List AV)(bX:Nat)(us:List AV)(c3:Nat)(out:List AV)(dY:Int)(fc:List UInt8)(fe:List AV)(ff:List UInt8)(au:List AV)(eK:List AV)(cF:Int)(d':Int)(fg:Int)(wp:List AV)(fh:Option Row)(gQ:Option Row)(gR:Option Row)(gS:Option Row)(kj:Option Row)(kk:Option Row)(kl:Option Row):a6 cy:=match fh with
 |some (.arr false (.agg [.int .i64,.str,.slice (.agg [.str,.int .i64]),.str,.slice (.agg [.str,.str]),.slice (.int .u8),.int .i64,.int .i64,.int .i64,.slice (.agg [.str,.int .i64,.int .i64,.bool])]) 89 dk none)=>.bt ((p==aE&&(Nat.beq q1 9990&&(Nat.beq cO 64&&(Nat.beq b2 1125899906842627&&(Nat.beq bX 1125899906842629&&(Nat.beq c3 1125899906842631&&kS mG rec))))))&&(bl n i ws.length&&(decide (ws.length<=4)&&ws.all eh))) (aci (yk c4 de cE dH aD cY r1 cQ c6 wr) (pe rec dn c2 ms us out dk dY fc fe ff au eK cF d' fg wp) ws i [gQ,gR,gS,kj,kk,kl])
 |_=>.no
def ack(p q1 cO:Nat)(ws:List AV)(n i:Int)(c4:Int)(de:List UInt8)(cE:List AV)(dH:List UInt8)(aD:List AV)(cY:List AV)(r1:Int)(cQ:Int)(c6:Int)(wr:List AV)(rec:List AV)(dn:Int)(c2:Int)(b2:Nat)(ms:List AV)(bX:Nat)(us:List AV)(c3:Nat)(out:List AV)(gd:Option Row)(fh:Option Row)(gQ:Option Row)(gR:Option Row)(gS:Option Row)(kj:Option Row)(kk:Option Row)(kl:Option Row):a6 cy:=match gd with
 |some (.box false [.int .i64 dY,.str fc,.ab (.agg [.str,.int .i64]) fe,.str ff,.ab (.agg [.str,.str]) au,.ab (.int .u8) eK,.int .i64 cF,.int .i64 d',.int .i64 fg,.ab (.agg [.str,.int .i64,.int .i64,.bool]) wp])=>acj p q1 cO ws n i c4 de cE dH aD cY r1 cQ c6 wr rec dn c2 b2 ms bX us c3 out dY fc fe ff au eK cF d' fg wp fh gQ gR gS kj kk kl
 |_=>.no
def acm(p q1 cO:Nat)(ws:List AV)(n i:Int)(c4:Int)(de:List UInt8)(cE:List AV)(dH:List UInt8)(aD:List AV)(cY:List AV)(r1:Int)(cQ:Int)(c6:Int)(wr:List AV)(rec:List AV)(dn:Int)(c2:Int)(b2:Nat)(ms:List AV)(bX:Nat)(us:List AV)(e3:Option Row)(hD:Option Row)(gd:Option Row)(fh:Option Row)(gQ:Option Row)(gR:Option Row)(gS:Option Row)(kj:Option Row)(kk:Option Row)(kl:Option Row):a6 cy:=match e3,hD with
 |some (.box false [.own c3]),some (.arr false (.agg [.int .i64,.str,.slice (.int .i64)]) 49 out none)=>ack p q1 cO ws n i c4 de cE dH aD cY r1 cQ c6 wr rec dn c2 b2 ms bX us c3 out gd fh gQ gR gS kj kk kl
 |_,_=>.no
def acn(p q1 cO:Nat)(ws:List AV)(n i:Int)(c4:Int)(de:List UInt8)(cE:List AV)(dH:List UInt8)(aD:List AV)(cY:List AV)(r1:Int)(cQ:Int)(c6:Int)(wr:List AV)(rec:List AV)(dn:Int)(c2:Int)(b2:Nat)(hC:Option Row)(gP:Option Row)(gb:Option Row)(e3:Option Row)(hD:Option Row)(gd:Option Row)(fh:Option Row)(gQ:Option Row)(gR:Option Row)(gS:Option Row)(kj:Option Row)(kk:Option Row)(kl:Option Row):a6 cy:=match hC,gP,gb with
 |some (.box false [.ct ms]),some (.box false [.own bX]),some (.box false [.ct us])=>acm p q1 cO ws n i c4 de cE dH aD cY r1 cQ c6 wr rec dn c2 b2 ms bX us e3 hD gd fh gQ gR gS kj kk kl
 |_,_,_=>.no
def aco(p q1 cO:Nat)(ws:List AV)(n i:Int)(c4:Int)(de:List UInt8)(cE:List AV)(dH:List UInt8)(aD:List AV)(cY:List AV)(r1:Int)(cQ:Int)(c6:Int)(wr:List AV)(fL:Option Row)(iI:Option Row)(h9:Option Row)(hC:Option Row)(gP:Option Row)(gb:Option Row)(e3:Option Row)(hD:Option Row)(gd:Option Row)(fh:Option Row)(gQ:Option Row)(gR:Option Row)(gS:Option Row)(kj:Option Row)(kk:Option Row)(kl:Option Row):a6 cy:=match fL,iI,h9 with
 |some (.box false rec),some (.box false [.int .i64 dn,.int .i64 c2]),some (.box false [.own b2])=>acn p q1 cO ws n i c4 de cE dH aD cY r1 cQ c6 wr rec dn c2 b2 hC gP gb e3 hD gd fh gQ gR gS kj kk kl
 |_,_,_=>.no
def acp(p q1 cO:Nat)(ws:List AV)(n i:Int)(c4:Int)(de:List UInt8)(cE:List AV)(dH:List UInt8)(aD:List AV)(cY:List AV)(r1:Int)(cQ:Int)(c6:Int)(wr:List AV)(rs:List (Option Row)):a6 cy:=match rs with
 |[fL,iI,h9,hC,gP,gb,e3,hD,gd,fh,gQ,gR,gS,kj,kk,kl]=>aco p q1 cO ws n i c4 de cE dH aD cY r1 cQ c6 wr fL iI h9 hC gP gb e3 hD gd fh gQ gR gS kj kk kl
 |_=>.no
def acq(p q1 cO:Nat)(ws:List AV)(n i:Int)(v1:AV)(rs:List (Option Row)):a6 cy:=match v1 with
 |.ref [.int .i64 c4,.str de,.ab (.agg [.str,.int .i64]) cE,.str dH,.ab (.agg [.str,.str]) aD,.ab (.int .u8) cY,.int .i64 r1,.int .i64 cQ,.int .i64 c6,.ab (.agg [.str,.int .i64,.int .i64,.bool]) wr]=>acp p q1 cO ws n i c4 de cE dH aD cY r1 cQ c6 wr rs
 |_=>.no
def RD(vs:List AV)(rs:List (Option Row)):a6 cy:=match vs with
 |[.own p,v1,.own q1,.own cO,.ab (.agg [.str,.int .i64,.int .i64,.bool]) ws,.int .i64 n,.int .i64 i]=>acq p q1 cO ws n i v1 rs
 |_=>.no
def acr:Ev.Loop:=⟨{len:=60,dr:=[0,1,3,4,12,13,14],rows:=[aE,aE+1,aE+2,aE+3,aE+4,aE+5,aE+6,aE+7,aE+8,aE+9,64,9990,9991,9992,9993,9994],homes:=[(3,9990,9)],cells:=[(64,1,9991,3),(64,2,9992,3),(64,3,9993,3),(64,4,9994,3)]},dP RD⟩
noncomputable def F3:Env:={pure:=[(72,aK Al)],ext:=[64,450],iq:=some (2,1,cz C0)}
def Rh:aM prog F3:=aM.ajd (aq:={pure:=[(72,aK Al)],ext:=[64,450]}) (aM.flags (aM.br bV QC)) aG apc
noncomputable def Rf:Code:=((Tryz.f73.body.map c7).getD []).headD .skip
noncomputable def abn:Code:=((Tryz.f73.body.map c7).getD []).tail.headD .skip
def ar0(vs:List AV)(_:List (Option Row)):Nat:=match vs with
 |[_,_,_,_,_,.int _ n,.int _ i]=>(n-i).toNat
 |_=>0
def u5{α aj:Type}{c:Bool}{t:a6 α}{k:α->Option aj}{r:aj}(h:(a6.bt c t).run k=some r):c=true/\t.run k=some r:=by
 change(bif c then t.run k else none)=some r at h;cases c with
 |true=>exact⟨rfl,h⟩
 |false=>cases h
theorem ar1(K:List (Nat×Ev.Loop)):dj prog F3 K Rf acr:=by
 refine ed Rh.dX rfl (ch.nil aG) ar0 (λaj vs rs k r h=>?_);unfold RD at h;split at h;rotate_left
 .cases h
 rename_i p v1 q1 cO ws n i;unfold acq at h;split at h;rotate_left
 .cases h
 rename_i c4 de cE dH aD cY r1 cQ c6 wr;unfold acp at h;split at h;rotate_left
 .cases h
 rename_i fL iI h9 hC gP gb e3 hD gd fh gQ gR gS kj kk kl;unfold aco at h;split at h;rotate_left
 .cases h
 rename_i rec dn c2 b2;unfold acn at h;split at h;rotate_left
 .cases h
 rename_i ms bX us;unfold acm at h;split at h;rotate_left
 .cases h
 rename_i c3 out;unfold ack at h;split at h;rotate_left
 .cases h
 rename_i dY fc fe ff au eK cF d' fg wp;unfold acj at h;split at h;rotate_left
 .cases h
 rename_i dk
 .skip
  obtain⟨mH,h⟩:=u5 h;simp only[ba]at mH;obtain⟨⟨AD,F5,F6,RE,RF,RG,u6⟩,mH,yi,jM⟩:=mH;obtain rfl:=cH F5;obtain rfl:=cH F6;obtain rfl:p=aE:=by simpa using AD
  obtain rfl:=cH RE;obtain rfl:=cH RF;obtain rfl:=cH RG;have yi:=bH yi;obtain⟨rfl,nN,j,rfl,Rl⟩:=eA mH;have oR:=u6;obtain⟨nU,nV,nW,nX,nY,nZ,n1,n2,n5,n7,n8,n9,n',oa,ob,oc,od,oe,oh,oi,oj,om,oo,oq,ot,ou,ov,ow,oy,oA,oB,oC,oD,oE,rfl⟩:=Ri u6;unfold aci at h;split at h
  .rename_i heq;simp only[jY,po]at heq;obtain⟨rfl,rfl,rfl,rfl,rfl,rfl⟩:=heq;obtain⟨aB,ai⟩:=bz h;rw[bK]at ai;have hi:=bH aB;refine bn (b:=have av:=(u9 nU nV nW nX nY nZ n1 n2 n5 n7 n8 n9 n' oa ob oc od oe oh oi oj om oo oq ot ou ov ow oy oA oB oC oD oE);have az:=(Nat.beq 64 64&&(Nat.beq 1125899906842627 1125899906842627&&(Nat.beq 1125899906842629 1125899906842629&&(Nat.beq 1125899906842631 1125899906842631&&kS mG av))));have aI:=((j:Int)+(1:Int));have aO:=(ws.length:Int);have aZ:=(Sh.agg [.str,.int .i64,.int .i64,.bool]);have bk:=(bm (ws.getD j .J));have bF:=decide ((aO-i64.wrap aI).toNat<(aO-(j:Int)).toNat);have bI:=(i64.wrap aI);have bd:=(bl aO bI ws.length&&(decide (ws.length<=4)&&ws.all eh));have b3:=(yk c4 de cE dH aD cY r1 cQ c6 wr);have aF:=[AV.own 1125899906842624,b3,.own 9990,.own 64,.ab aZ ws,.I aO,.I aO];have cd:=[AV.I (j:Int)];have cJ:=(Ex.exit 0);bif decide ((j:Int)<aO)then bif inb (j:Int) ws.length then bif(dC (ws.getD j .J))!=0 then bif bF then bif aE==aE&&(Nat.beq 9990 9990&&az)&&bd then bif decide ((0:Int)<=i64.wrap aI)then k cJ aF (pe av dn c2 ms us out dk dY fc fe ff au eK cF d' fg wp (iy bI.toNat (List.drop bI.toNat ws) []))else none else none else none else bif ee bk.length then bif bF then bif aE==aE&&((3,9990,(9:TypeId)).snd.fst.beq 9990&&az)&&bd then bif decide ((1:Int)<=i64.wrap aI)&&((9991:Nat).beq 9991&&(cC bk==cC bk&&(!cd.isEmpty&&decide ((cd.length:Int)<=i64.wrap aI))))then k cJ aF (pe av dn c2 ms us out dk dY fc fe ff au eK cF d' fg wp (iy bI.toNat (List.drop bI.toNat ws) [(cC bk,cd)]))else none else none else none else none else none else k cJ [.own 1125899906842624,b3,.own 9990,.own 64,.ab aZ ws,.I aO,.I (j:Int)] [some (.box false av),some (.box false [.I dn,.I c2]),some (.box false [.own 1125899906842627]),some (.box false [.ct ms]),some (.box false [.own 1125899906842629]),some (.box false [.ct us]),some (.box false [.own 1125899906842631]),some (.arr false (.agg [.int .i64,.str,.slice (.int .i64)]) 49 out none),some (.box false [.I dY,.str fc,.ab (.agg [.str,.int .i64]) fe,.str ff,.ab (.agg [.str,.str]) au,.ab (.int .u8) eK,.I cF,.I d',.I fg,.ab aZ wp]),some (.arr false (.agg [.int .i64,.str,.slice (.agg [.str,.int .i64]),.str,.slice (.agg [.str,.str]),.slice (.int .u8),.int .i64,.int .i64,.int .i64,aZ.slice]) 89 dk none),some (.box false [.tup []]),some (.arr false .str 9 [] none),none,none,none,none]) ?_;conv=>zeta
   rw[<-ai];by_cases aL:j<ws.length
   .obtain⟨aU,bc,bw,bQ,bN⟩:=ew aL nN;have fY:ee (bm (ws.getD j .J)).length=true:=jg jM aL;rw[Gh aL];have AK:tY j [] (ws.getD j .J)=bif dC (ws.getD j .J)==0 then[(cC (bm (ws.getD j .J)),[.int .i64 j])]else[]:=by show(bif dC (ws.getD j .J)==0 then ins (cC (bm (ws.getD j .J))) j []else[])=_;simp only[ins]
    rw[AK];have f0:decide (ws.length<=4)=true:=aS yi;have f1:decide ((0:Int)<=((j+1:Nat):Int))=true:=aS al;have f2:decide ((1:Int)<=((j+1:Nat):Int))=true:=aS al;have ne:∀(l:List AV)(x:AV),(l++[x]).isEmpty=false:=λl x=>Hj;have qW:∀x:AV,([x]:List AV).isEmpty=false:=λ_=>rfl;have s1:decide ((([.int .i64 (j:Int)]:List AV).length:Int)<=((j+1:Nat):Int))=true:=aS GV;have bo:∀x:AV,roomB ([x]:List AV).length (prog.bytesOf 3)=true:=λ_=>hW bb (bH aG);have rd:∀(l:List AV)(x:AV),l.length<=4->roomB (l.length+([x]:List AV).length) (prog.bytesOf 9)=true:=λl x h=>hW ps (bH aG);have qX:∀x:AV,roomB ([x]:List AV).length (prog.bytesOf 9)=true:=λ_=>hW bb (bH aG);have qY:∀x:AV,roomB (([]:List AV).length+([x]:List AV).length) (prog.bytesOf 9)=true:=λx=>rd _ x bb;cases hx:dC (ws.getD j .J)==0
    .exact Ti
    .exact Ti
   .obtain rfl:j=ws.length:=al;exact oQ
  .rename_i gM q1 bJ b1 heq;simp only[jY,po]at heq;obtain⟨rfl,rfl,rfl,rfl,rfl,rfl⟩:=heq;obtain⟨aB,ai⟩:=bz h;rw[bK]at ai;simp only[ba]at aB;obtain⟨hi,⟨g1,af,b0,dV⟩⟩:=aB;obtain rfl:=cH g1;obtain rfl:=ic af;have hi:=bH hi;have dV:=bH dV;refine bn (b:=have aI:=(u9 nU nV nW nX nY nZ n1 n2 n5 n7 n8 n9 n' oa ob oc od oe oh oi oj om oo oq ot ou ov ow oy oA oB oC oD oE);have av:=(Nat.beq 64 64&&(Nat.beq 1125899906842627 1125899906842627&&(Nat.beq 1125899906842629 1125899906842629&&(Nat.beq 1125899906842631 1125899906842631&&kS mG aI))));have bk:=((j:Int)+(1:Int));have bI:=[AV.I (j:Int)];have b3:=(Sh.agg [.str,.int .i64,.int .i64,.bool]);have dD:=(ws.length:Int);have aF:=decide ((dD-i64.wrap bk).toNat<(dD-(j:Int)).toNat);have fM:=(i64.wrap bk);have az:=(bl dD fM ws.length&&(decide (ws.length<=4)&&ws.all eh));have bF:=aE==aE&&(Nat.beq 9990 9990&&av)&&az;have cd:Option aj:=bif aF then bif bF then none else none else none;have cJ:=aE==aE&&((3,9990,(9:TypeId)).snd.fst.beq 9990&&av)&&az;have bd:Option aj:=bif aF then bif cJ then none else none else none;have ft:=(bm (ws.getD j .J));have gC:=(bJ==bJ&&(!b1.isEmpty&&decide ((b1.length:Int)<=i64.wrap bk)));have fQ:=roomB (b1.length+bI.length) (prog.bytesOf 3);have hN:=(Ex.exit 0);have gO:=(List.drop fM.toNat ws);have gu:=(yk c4 de cE dH aD cY r1 cQ c6 wr);have aZ:=[AV.own 1125899906842624,gu,.own 9990,.own 64,.ab b3 ws,.I dD,.I dD];have gZ:=[AV.str bJ,.own 9991];have aO:=c9 (.str (cC ft)) (eL (.tup gZ));bif decide ((j:Int)<dD)then bif inb (j:Int) ws.length then bif(dC (ws.getD j .J))!=0 then bif aF then bif bF then bif decide ((1:Int)<=i64.wrap bk)&&(Nat.beq 9991 9991&&gC)then k hN aZ (pe aI dn c2 ms us out dk dY fc fe ff au eK cF d' fg wp (iy fM.toNat gO [(bJ,b1)]))else none else none else none else bif ee ft.length then bif aO then bif b1.isEmpty then none else bif aO then bif fQ then bif aO then bif aF then bif bF then bif decide ((1:Int)<=i64.wrap bk)&&((9991:Nat).beq 9991&&(bJ==bJ&&(!(b1++bI).isEmpty&&decide (((b1++bI).length:Int)<=i64.wrap bk))))then k hN aZ (pe aI dn c2 ms us out dk dY fc fe ff au eK cF d' fg wp (iy fM.toNat gO [(bJ,b1++bI)]))else none else none else none else cd else none else bif aO then cd else cd else bif aO then bif fQ then bif aO then bd else bd else none else bif aO then bd else bif aF then bif cJ then bif decide ((2:Int)<=i64.wrap bk)&&(Nat.beq 9991 9991&&gC&&((9992:Nat).beq 9992&&(cC ft==cC ft&&(!bI.isEmpty&&decide ((bI.length:Int)<=i64.wrap bk)))))then k hN aZ (pe aI dn c2 ms us out dk dY fc fe ff au eK cF d' fg wp (iy fM.toNat gO [(bJ,b1),(cC ft,bI)]))else none else none else none else none else none else k hN [.own 1125899906842624,gu,.own 9990,.own 64,.ab b3 ws,.I dD,.I (j:Int)] [some (.box false aI),some (.box false [.I dn,.I c2]),some (.box false [.own 1125899906842627]),some (.box false [.ct ms]),some (.box false [.own 1125899906842629]),some (.box false [.ct us]),some (.box false [.own 1125899906842631]),some (.arr false (.agg [.int .i64,.str,.slice (.int .i64)]) 49 out none),some (.box false [.I dY,.str fc,.ab (.agg [.str,.int .i64]) fe,.str ff,.ab (.agg [.str,.str]) au,.ab (.int .u8) eK,.I cF,.I d',.I fg,.ab b3 wp]),some (.arr false (.agg [.int .i64,.str,.slice (.agg [.str,.int .i64]),.str,.slice (.agg [.str,.str]),.slice (.int .u8),.int .i64,.int .i64,.int .i64,b3.slice]) 89 dk none),some (.box false [.tup [.tup gZ]]),some (.arr false .str 9 [.str bJ] none),some (.arr false (.int .i64) 3 b1 none),none,none,none]) ?_;conv=>zeta
   rw[<-ai];by_cases aL:j<ws.length
   .obtain⟨aU,bc,bw,bQ,bN⟩:=ew aL nN;have fY:ee (bm (ws.getD j .J)).length=true:=jg jM aL;rw[Gh aL];have AK:tY j [(bJ,b1)] (ws.getD j .J)=bif dC (ws.getD j .J)==0 then(bif cC (bm (ws.getD j .J))==bJ then[(bJ,b1++[.int .i64 j])]else[(bJ,b1),(cC (bm (ws.getD j .J)),[.int .i64 j])])else[(bJ,b1)]:=by show(bif dC (ws.getD j .J)==0 then ins (cC (bm (ws.getD j .J))) j [(bJ,b1)]else[(bJ,b1)])=_;simp only[ins]
    rw[AK];have f0:decide (ws.length<=4)=true:=aS yi;have f2:decide ((1:Int)<=((j+1:Nat):Int))=true:=aS al;have f3:decide ((2:Int)<=((j+1:Nat):Int))=true:=aS al;have ne:∀(l:List AV)(x:AV),(l++[x]).isEmpty=false:=λl x=>Hj;have qW:∀x:AV,([x]:List AV).isEmpty=false:=λ_=>rfl;have s1:decide ((([.int .i64 (j:Int)]:List AV).length:Int)<=((j+1:Nat):Int))=true:=aS GV;have bo:∀x:AV,roomB ([x]:List AV).length (prog.bytesOf 3)=true:=λ_=>hW bb (bH aG);have n11:b1.isEmpty=false:=by simpa using b0
    have s8:decide ((b1.length:Int)<=((j+1:Nat):Int))=true:=aS al;have z12:∀x:AV,decide (((b1++[x]).length:Int)<=((j+1:Nat):Int))=true:=λx=>aS s3;have s9:∀x:AV,roomB (b1.length+([x]:List AV).length) (prog.bytesOf 3)=true:=λx=>hW ps (bH aG);have rd:∀(l:List AV)(x:AV),l.length<=4->roomB (l.length+([x]:List AV).length) (prog.bytesOf 9)=true:=λl x h=>hW ps (bH aG);have qX:∀x:AV,roomB ([x]:List AV).length (prog.bytesOf 9)=true:=λ_=>hW bb (bH aG);have qY:∀x:AV,roomB (([.str bJ]:List AV).length+([x]:List AV).length) (prog.bytesOf 9)=true:=λx=>rd _ x bb;cases hx:dC (ws.getD j .J)==0
    .simp only[c9,eL,bne,aU,bc,bw,bQ,bN,fY,f0,f2,f3,oR,jM,ne,qW,s1,bo,qX,qY,ha,b9,n11,s8,z12,s9,hx,b4,cU,pq,lY,jz,bK];rfl
    .cases k2:cC (bm (ws.getD j .J))==bJ;rotate_left
     .exact Th
     .exact Th
   .obtain rfl:j=ws.length:=al;exact oQ
  .rename_i gM q1 kW cO bJ a2 b1 cS heq;simp only[jY,po]at heq;obtain⟨rfl,rfl,rfl,rfl,rfl,rfl⟩:=heq;obtain⟨aB,ai⟩:=bz h;rw[bK]at ai;simp only[ba]at aB;obtain⟨hi,⟨g1,af,b0,dV⟩,⟨g2,ao,bS,z2⟩⟩:=aB;obtain rfl:=cH g1;obtain rfl:=ic af;obtain rfl:=cH g2;obtain rfl:=ic ao;have hi:=bH hi;have dV:=bH dV;have z2:=bH z2;refine bn (b:=have aO:=(u9 nU nV nW nX nY nZ n1 n2 n5 n7 n8 n9 n' oa ob oc od oe oh oi oj om oo oq ot ou ov ow oy oA oB oC oD oE);have av:=(Nat.beq 64 64&&(Nat.beq 1125899906842627 1125899906842627&&(Nat.beq 1125899906842629 1125899906842629&&(Nat.beq 1125899906842631 1125899906842631&&kS mG aO))));have b3:=((j:Int)+(1:Int));have cd:=[AV.I (j:Int)];have dD:=(bJ==bJ&&(!b1.isEmpty&&decide ((b1.length:Int)<=i64.wrap b3)));have fM:=(a2==a2&&(!cS.isEmpty&&decide ((cS.length:Int)<=i64.wrap b3)));have ft:=(Sh.agg [.str,.int .i64,.int .i64,.bool]);have fQ:=(bm (ws.getD j .J));have gO:=(ws.length:Int);have bI:=decide ((gO-i64.wrap b3).toNat<(gO-(j:Int)).toNat);have gu:=(prog.bytesOf 3);have gZ:=(i64.wrap b3);have bF:=(bl gO gZ ws.length&&(decide (ws.length<=4)&&ws.all eh));have cJ:=aE==aE&&(Nat.beq 9990 9990&&av)&&bF;have aI:Option aj:=bif bI then bif cJ then none else none else none;have gC:=(List.drop gZ.toNat ws);have hN:=aE==aE&&((3,9990,(9:TypeId)).snd.fst.beq 9990&&av)&&bF;have aF:Option aj:=bif bI then bif hN then none else none else none;have ji:=(Ex.exit 0);have kY:=(Nat.beq 9992 9992&&fM);have ng:=(yk c4 de cE dH aD cY r1 cQ c6 wr);have bk:=[AV.own 1125899906842624,ng,.own 9990,.own 64,.ab ft ws,.I gO,.I gO];have nh:=roomB (b1.length+cd.length) gu;have mf:=roomB (cS.length+cd.length) gu;have pd:=[AV.str bJ,.own 9991];have aZ:=c9 (.str (cC fQ)) (eL (.tup pd));have qN:=[AV.str a2,.own 9992];have bd:=c9 (.str (cC fQ)) (eL (.tup qN));have kZ:=bif aZ then aF else bif bd then aF else aF;have rI:=bif bd then aI else aI;have az:=bif aZ then bif nh then bif aZ then bif bI then bif cJ then bif decide ((2:Int)<=i64.wrap b3)&&((9991:Nat).beq 9991&&(bJ==bJ&&(!(b1++cd).isEmpty&&decide (((b1++cd).length:Int)<=i64.wrap b3)))&&kY)then k ji bk (pe aO dn c2 ms us out dk dY fc fe ff au eK cF d' fg wp (iy gZ.toNat gC [(bJ,b1++cd),(a2,cS)]))else none else none else none else rI else none else bif bd then bif mf then bif aZ then aI else bif bd then bif bI then bif cJ then bif decide ((2:Int)<=i64.wrap b3)&&(Nat.beq 9991 9991&&dD&&((9992:Nat).beq 9992&&(a2==a2&&(!(cS++cd).isEmpty&&decide (((cS++cd).length:Int)<=i64.wrap b3)))))then k ji bk (pe aO dn c2 ms us out dk dY fc fe ff au eK cF d' fg wp (iy gZ.toNat gC [(bJ,b1),(a2,cS++cd)]))else none else none else none else aI else none else bif aZ then aI else rI;bif decide ((j:Int)<gO)then bif inb (j:Int) ws.length then bif(dC (ws.getD j .J))!=0 then bif bI then bif cJ then bif decide ((2:Int)<=i64.wrap b3)&&(Nat.beq 9991 9991&&dD&&kY)then k ji bk (pe aO dn c2 ms us out dk dY fc fe ff au eK cF d' fg wp (iy gZ.toNat gC [(bJ,b1),(a2,cS)]))else none else none else none else bif ee fQ.length then bif aZ then bif b1.isEmpty then none else az else bif bd then bif cS.isEmpty then none else az else bif aZ then bif nh then kZ else none else bif bd then bif mf then kZ else none else bif aZ then aF else bif bd then aF else bif bI then bif hN then bif decide ((3:Int)<=i64.wrap b3)&&(Nat.beq 9991 9991&&dD&&(Nat.beq 9992 9992&&fM&&((9993:Nat).beq 9993&&(cC fQ==cC fQ&&(!cd.isEmpty&&decide ((cd.length:Int)<=i64.wrap b3))))))then k ji bk (pe aO dn c2 ms us out dk dY fc fe ff au eK cF d' fg wp (iy gZ.toNat gC [(bJ,b1),(a2,cS),(cC fQ,cd)]))else none else none else none else none else none else k ji [.own 1125899906842624,ng,.own 9990,.own 64,.ab ft ws,.I gO,.I (j:Int)] [some (.box false aO),some (.box false [.I dn,.I c2]),some (.box false [.own 1125899906842627]),some (.box false [.ct ms]),some (.box false [.own 1125899906842629]),some (.box false [.ct us]),some (.box false [.own 1125899906842631]),some (.arr false (.agg [.int .i64,.str,.slice (.int .i64)]) 49 out none),some (.box false [.I dY,.str fc,.ab (.agg [.str,.int .i64]) fe,.str ff,.ab (.agg [.str,.str]) au,.ab (.int .u8) eK,.I cF,.I d',.I fg,.ab ft wp]),some (.arr false (.agg [.int .i64,.str,.slice (.agg [.str,.int .i64]),.str,.slice (.agg [.str,.str]),.slice (.int .u8),.int .i64,.int .i64,.int .i64,ft.slice]) 89 dk none),some (.box false [.tup [.tup pd,.tup qN]]),some (.arr false .str 9 [.str bJ,.str a2] none),some (.arr false (.int .i64) 3 b1 none),some (.arr false (.int .i64) 3 cS none),none,none]) ?_;conv=>zeta
   rw[<-ai];by_cases aL:j<ws.length
   .obtain⟨aU,bc,bw,bQ,bN⟩:=ew aL nN;have fY:ee (bm (ws.getD j .J)).length=true:=jg jM aL;rw[Gh aL];have AK:tY j [(bJ,b1),(a2,cS)] (ws.getD j .J)=bif dC (ws.getD j .J)==0 then(bif cC (bm (ws.getD j .J))==bJ then[(bJ,b1++[.int .i64 j]),(a2,cS)]else(bif cC (bm (ws.getD j .J))==a2 then[(bJ,b1),(a2,cS++[.int .i64 j])]else[(bJ,b1),(a2,cS),(cC (bm (ws.getD j .J)),[.int .i64 j])]))else[(bJ,b1),(a2,cS)]:=by show(bif dC (ws.getD j .J)==0 then ins (cC (bm (ws.getD j .J))) j [(bJ,b1),(a2,cS)]else[(bJ,b1),(a2,cS)])=_;simp only[ins];generalize(cC (bm (ws.getD j .J))==bJ)=o4;generalize(cC (bm (ws.getD j .J))==a2)=As;cases o4<;>cases As<;>rfl
    rw[AK];have f0:decide (ws.length<=4)=true:=aS yi;have f3:decide ((2:Int)<=((j+1:Nat):Int))=true:=aS al;have f4:decide ((3:Int)<=((j+1:Nat):Int))=true:=aS al;have ne:∀(l:List AV)(x:AV),(l++[x]).isEmpty=false:=λl x=>Hj;have qW:∀x:AV,([x]:List AV).isEmpty=false:=λ_=>rfl;have s1:decide ((([.int .i64 (j:Int)]:List AV).length:Int)<=((j+1:Nat):Int))=true:=aS GV;have bo:∀x:AV,roomB ([x]:List AV).length (prog.bytesOf 3)=true:=λ_=>hW bb (bH aG);have n11:b1.isEmpty=false:=by simpa using b0
    have s8:decide ((b1.length:Int)<=((j+1:Nat):Int))=true:=aS al;have z12:∀x:AV,decide (((b1++[x]).length:Int)<=((j+1:Nat):Int))=true:=λx=>aS s3;have s9:∀x:AV,roomB (b1.length+([x]:List AV).length) (prog.bytesOf 3)=true:=λx=>hW ps (bH aG);have n21:cS.isEmpty=false:=by simpa using bS
    have z21:decide ((cS.length:Int)<=((j+1:Nat):Int))=true:=aS al;have z22:∀x:AV,decide (((cS++[x]).length:Int)<=((j+1:Nat):Int))=true:=λx=>aS s3;have w8:∀x:AV,roomB (cS.length+([x]:List AV).length) (prog.bytesOf 3)=true:=λx=>hW ps (bH aG);have rd:∀(l:List AV)(x:AV),l.length<=4->roomB (l.length+([x]:List AV).length) (prog.bytesOf 9)=true:=λl x h=>hW ps (bH aG);have qX:∀x:AV,roomB ([x]:List AV).length (prog.bytesOf 9)=true:=λ_=>hW bb (bH aG);have qY:∀x:AV,roomB (([.str bJ,.str a2]:List AV).length+([x]:List AV).length) (prog.bytesOf 9)=true:=λx=>rd _ x bb;cases hx:dC (ws.getD j .J)==0
    .simp only[c9,eL,bne,aU,bc,bw,bQ,bN,fY,f0,f3,f4,oR,jM,ne,qW,s1,bo,qX,qY,ha,b9,n11,s8,z12,s9,n21,z21,z22,w8,hx,b4,cU,pq,lY,jz,bK];rfl
    .cases k2:cC (bm (ws.getD j .J))==bJ;rotate_left
     .simp only[c9,eL,bne,aU,bc,bw,bQ,bN,fY,f0,f3,f4,oR,jM,ne,qW,s1,bo,qX,qY,ha,b9,n11,s8,z12,s9,n21,z21,z22,w8,hx,k2,b4,cU,pq,lY,jz,bK];rfl
     .cases hy:cC (bm (ws.getD j .J))==a2;rotate_left
      .exact Tg
      .exact Tg
   .obtain rfl:j=ws.length:=al;exact oQ
  .rename_i gM q1 kW cO tW mR bJ a2 a3 b1 cS fq heq;simp only[jY,po]at heq;obtain⟨rfl,rfl,rfl,rfl,rfl,rfl⟩:=heq;obtain⟨aB,ai⟩:=bz h;rw[bK]at ai;simp only[ba]at aB;obtain⟨hi,⟨g1,af,b0,dV⟩,⟨g2,ao,bS,z2⟩,⟨g3,a1,n3,z3⟩⟩:=aB;obtain rfl:=cH g1;obtain rfl:=ic af;obtain rfl:=cH g2;obtain rfl:=ic ao;obtain rfl:=cH g3;obtain rfl:=ic a1;have hi:=bH hi;have dV:=bH dV;have z2:=bH z2;have z3:=bH z3;refine bn (b:=have aO:=(u9 nU nV nW nX nY nZ n1 n2 n5 n7 n8 n9 n' oa ob oc od oe oh oi oj om oo oq ot ou ov ow oy oA oB oC oD oE);have az:=(Nat.beq 64 64&&(Nat.beq 1125899906842627 1125899906842627&&(Nat.beq 1125899906842629 1125899906842629&&(Nat.beq 1125899906842631 1125899906842631&&kS mG aO))));have bk:=((j:Int)+(1:Int));have dD:=[AV.I (j:Int)];have ft:=(bJ==bJ&&(!b1.isEmpty&&decide ((b1.length:Int)<=i64.wrap bk)));have gO:=(a2==a2&&(!cS.isEmpty&&decide ((cS.length:Int)<=i64.wrap bk)));have gu:=(a3==a3&&(!fq.isEmpty&&decide ((fq.length:Int)<=i64.wrap bk)));have gZ:=(prog.bytesOf 3);have ji:=(Sh.agg [.str,.int .i64,.int .i64,.bool]);have kY:=(ws.length:Int);have cJ:=decide ((kY-i64.wrap bk).toNat<(kY-(j:Int)).toNat);have ng:=(i64.wrap bk);have gC:=(bl kY ng ws.length&&(decide (ws.length<=4)&&ws.all eh));have bF:=aE==aE&&(Nat.beq 9990 9990&&az)&&gC;have aI:Option aj:=bif cJ then bif bF then none else none else none;have fQ:=(List.drop ng.toNat ws);have kZ:=aE==aE&&((3,9990,(9:TypeId)).snd.fst.beq 9990&&az)&&gC;have aF:Option aj:=bif cJ then bif kZ then none else none else none;have nh:=(bm (ws.getD j .J));have aZ:=(AV.str (cC nh));have mf:=(Ex.exit 0);have qN:=(Nat.beq 9993 9993&&gu);have fM:=(Nat.beq 9992 9992&&gO&&qN);have rI:=(yk c4 de cE dH aD cY r1 cQ c6 wr);have bd:=[AV.own 1125899906842624,rI,.own 9990,.own 64,.ab ji ws,.I kY,.I kY];have tZ:=roomB (b1.length+dD.length) gZ;have wE:=roomB (cS.length+dD.length) gZ;have yl:=roomB (fq.length+dD.length) gZ;have sQ:=(Sh.int .i64);have acs:=[AV.str bJ,.own 9991];have bI:=c9 aZ (eL (.tup acs));have acu:=[AV.str a2,.own 9992];have b3:=c9 aZ (eL (.tup acu));have acv:=[AV.str a3,.own 9993];have cd:=c9 aZ (eL (.tup acv));have hN:=bif bI then aF else bif b3 then aF else bif cd then aF else aF;have acw:=bif cd then aI else aI;have pd:=bif b3 then aI else acw;have av:=bif bI then bif tZ then bif bI then bif cJ then bif bF then bif decide ((3:Int)<=i64.wrap bk)&&((9991:Nat).beq 9991&&(bJ==bJ&&(!(b1++dD).isEmpty&&decide (((b1++dD).length:Int)<=i64.wrap bk)))&&fM)then k mf bd (pe aO dn c2 ms us out dk dY fc fe ff au eK cF d' fg wp (iy ng.toNat fQ [(bJ,b1++dD),(a2,cS),(a3,fq)]))else none else none else none else pd else none else bif b3 then bif wE then bif bI then aI else bif b3 then bif cJ then bif bF then bif decide ((3:Int)<=i64.wrap bk)&&(Nat.beq 9991 9991&&ft&&((9992:Nat).beq 9992&&(a2==a2&&(!(cS++dD).isEmpty&&decide (((cS++dD).length:Int)<=i64.wrap bk)))&&qN))then k mf bd (pe aO dn c2 ms us out dk dY fc fe ff au eK cF d' fg wp (iy ng.toNat fQ [(bJ,b1),(a2,cS++dD),(a3,fq)]))else none else none else none else acw else none else bif cd then bif yl then bif bI then aI else bif b3 then aI else bif cd then bif cJ then bif bF then bif decide ((3:Int)<=i64.wrap bk)&&(Nat.beq 9991 9991&&ft&&(Nat.beq 9992 9992&&gO&&((9993:Nat).beq 9993&&(a3==a3&&(!(fq++dD).isEmpty&&decide (((fq++dD).length:Int)<=i64.wrap bk))))))then k mf bd (pe aO dn c2 ms us out dk dY fc fe ff au eK cF d' fg wp (iy ng.toNat fQ [(bJ,b1),(a2,cS),(a3,fq++dD)]))else none else none else none else aI else none else bif bI then aI else pd;bif decide ((j:Int)<kY)then bif inb (j:Int) ws.length then bif(dC (ws.getD j .J))!=0 then bif cJ then bif bF then bif decide ((3:Int)<=i64.wrap bk)&&(Nat.beq 9991 9991&&ft&&fM)then k mf bd (pe aO dn c2 ms us out dk dY fc fe ff au eK cF d' fg wp (iy ng.toNat fQ [(bJ,b1),(a2,cS),(a3,fq)]))else none else none else none else bif ee nh.length then bif bI then bif b1.isEmpty then none else av else bif b3 then bif cS.isEmpty then none else av else bif cd then bif fq.isEmpty then none else av else bif bI then bif tZ then hN else none else bif b3 then bif wE then hN else none else bif cd then bif yl then hN else none else bif bI then aF else bif b3 then aF else bif cd then aF else bif cJ then bif kZ then bif decide ((4:Int)<=i64.wrap bk)&&(Nat.beq 9991 9991&&ft&&(Nat.beq 9992 9992&&gO&&(Nat.beq 9993 9993&&gu&&((9994:Nat).beq 9994&&(cC nh==cC nh&&(!dD.isEmpty&&decide ((dD.length:Int)<=i64.wrap bk)))))))then k mf bd (pe aO dn c2 ms us out dk dY fc fe ff au eK cF d' fg wp (iy ng.toNat fQ [(bJ,b1),(a2,cS),(a3,fq),(cC nh,dD)]))else none else none else none else none else none else k mf [.own 1125899906842624,rI,.own 9990,.own 64,.ab ji ws,.I kY,.I (j:Int)] [some (.box false aO),some (.box false [.I dn,.I c2]),some (.box false [.own 1125899906842627]),some (.box false [.ct ms]),some (.box false [.own 1125899906842629]),some (.box false [.ct us]),some (.box false [.own 1125899906842631]),some (.arr false (.agg [.int .i64,.str,sQ.slice]) 49 out none),some (.box false [.I dY,.str fc,.ab (.agg [.str,.int .i64]) fe,.str ff,.ab (.agg [.str,.str]) au,.ab (.int .u8) eK,.I cF,.I d',.I fg,.ab ji wp]),some (.arr false (.agg [.int .i64,.str,.slice (.agg [.str,.int .i64]),.str,.slice (.agg [.str,.str]),.slice (.int .u8),.int .i64,.int .i64,.int .i64,ji.slice]) 89 dk none),some (.box false [.tup [.tup acs,.tup acu,.tup acv]]),some (.arr false .str 9 [.str bJ,.str a2,.str a3] none),some (.arr false sQ 3 b1 none),some (.arr false sQ 3 cS none),some (.arr false sQ 3 fq none),none]) ?_;conv=>zeta
   rw[<-ai];by_cases aL:j<ws.length
   .obtain⟨aU,bc,bw,bQ,bN⟩:=ew aL nN;have fY:ee (bm (ws.getD j .J)).length=true:=jg jM aL;rw[Gh aL];have AK:tY j [(bJ,b1),(a2,cS),(a3,fq)] (ws.getD j .J)=bif dC (ws.getD j .J)==0 then(bif cC (bm (ws.getD j .J))==bJ then[(bJ,b1++[.int .i64 j]),(a2,cS),(a3,fq)]else(bif cC (bm (ws.getD j .J))==a2 then[(bJ,b1),(a2,cS++[.int .i64 j]),(a3,fq)]else(bif cC (bm (ws.getD j .J))==a3 then[(bJ,b1),(a2,cS),(a3,fq++[.int .i64 j])]else[(bJ,b1),(a2,cS),(a3,fq),(cC (bm (ws.getD j .J)),[.int .i64 j])])))else[(bJ,b1),(a2,cS),(a3,fq)]:=by show(bif dC (ws.getD j .J)==0 then ins (cC (bm (ws.getD j .J))) j [(bJ,b1),(a2,cS),(a3,fq)]else[(bJ,b1),(a2,cS),(a3,fq)])=_;simp only[ins];generalize(cC (bm (ws.getD j .J))==bJ)=o4;generalize(cC (bm (ws.getD j .J))==a2)=As;generalize(cC (bm (ws.getD j .J))==a3)=y3;cases o4<;>cases As<;>cases y3<;>rfl
    rw[AK];have f0:decide (ws.length<=4)=true:=aS yi;have f4:decide ((3:Int)<=((j+1:Nat):Int))=true:=aS al;have f5:decide ((4:Int)<=((j+1:Nat):Int))=true:=aS al;have ne:∀(l:List AV)(x:AV),(l++[x]).isEmpty=false:=λl x=>Hj;have qW:∀x:AV,([x]:List AV).isEmpty=false:=λ_=>rfl;have s1:decide ((([.int .i64 (j:Int)]:List AV).length:Int)<=((j+1:Nat):Int))=true:=aS GV;have bo:∀x:AV,roomB ([x]:List AV).length (prog.bytesOf 3)=true:=λ_=>hW bb (bH aG);have n11:b1.isEmpty=false:=by simpa using b0
    have s8:decide ((b1.length:Int)<=((j+1:Nat):Int))=true:=aS al;have z12:∀x:AV,decide (((b1++[x]).length:Int)<=((j+1:Nat):Int))=true:=λx=>aS s3;have s9:∀x:AV,roomB (b1.length+([x]:List AV).length) (prog.bytesOf 3)=true:=λx=>hW ps (bH aG);have n21:cS.isEmpty=false:=by simpa using bS
    have z21:decide ((cS.length:Int)<=((j+1:Nat):Int))=true:=aS al;have z22:∀x:AV,decide (((cS++[x]).length:Int)<=((j+1:Nat):Int))=true:=λx=>aS s3;have w8:∀x:AV,roomB (cS.length+([x]:List AV).length) (prog.bytesOf 3)=true:=λx=>hW ps (bH aG);have n31:fq.isEmpty=false:=by simpa using n3
    have z31:decide ((fq.length:Int)<=((j+1:Nat):Int))=true:=aS al;have z32:∀x:AV,decide (((fq++[x]).length:Int)<=((j+1:Nat):Int))=true:=λx=>aS s3;have Hq:∀x:AV,roomB (fq.length+([x]:List AV).length) (prog.bytesOf 3)=true:=λx=>hW ps (bH aG);have rd:∀(l:List AV)(x:AV),l.length<=4->roomB (l.length+([x]:List AV).length) (prog.bytesOf 9)=true:=λl x h=>hW ps (bH aG);have qX:∀x:AV,roomB ([x]:List AV).length (prog.bytesOf 9)=true:=λ_=>hW bb (bH aG);have qY:∀x:AV,roomB (([.str bJ,.str a2,.str a3]:List AV).length+([x]:List AV).length) (prog.bytesOf 9)=true:=λx=>rd _ x bb;cases hx:dC (ws.getD j .J)==0
    .simp only[c9,eL,bne,aU,bc,bw,bQ,bN,fY,f0,f4,f5,oR,jM,ne,qW,s1,bo,qX,qY,ha,b9,n11,s8,z12,s9,n21,z21,z22,w8,n31,z31,z32,Hq,hx,b4,cU,pq,lY,jz,bK];rfl
    .cases k2:cC (bm (ws.getD j .J))==bJ;rotate_left
     .simp only[c9,eL,bne,aU,bc,bw,bQ,bN,fY,f0,f4,f5,oR,jM,ne,qW,s1,bo,qX,qY,ha,b9,n11,s8,z12,s9,n21,z21,z22,w8,n31,z31,z32,Hq,hx,k2,b4,cU,pq,lY,jz,bK];rfl
     .cases hy:cC (bm (ws.getD j .J))==a2;rotate_left
      .simp only[c9,eL,bne,aU,bc,bw,bQ,bN,fY,f0,f4,f5,oR,jM,ne,qW,s1,bo,qX,qY,ha,b9,n11,s8,z12,s9,n21,z21,z22,w8,n31,z31,z32,Hq,hx,k2,hy,b4,cU,pq,lY,jz,bK];rfl
      .cases w9:cC (bm (ws.getD j .J))==a3;rotate_left
       .exact Te
       .exact Te
   .obtain rfl:j=ws.length:=al;exact oQ
  .rename_i gM q1 kW cO tW mR uI Eg bJ a2 a3 a4 b1 cS fq tU heq;simp only[jY,po]at heq;obtain⟨rfl,rfl,rfl,rfl,rfl,rfl⟩:=heq;obtain⟨aB,ai⟩:=bz h;rw[bK]at ai;simp only[ba]at aB;obtain⟨hi,⟨g1,af,b0,dV⟩,⟨g2,ao,bS,z2⟩,⟨g3,a1,n3,z3⟩,⟨g4,ca,n4,z4⟩⟩:=aB;obtain rfl:=cH g1;obtain rfl:=ic af;obtain rfl:=cH g2;obtain rfl:=ic ao;obtain rfl:=cH g3;obtain rfl:=ic a1;obtain rfl:=cH g4;obtain rfl:=ic ca;have hi:=bH hi;have dV:=bH dV;have z2:=bH z2;have z3:=bH z3;have z4:=bH z4;have ca:ws.length=4:=al;obtain rfl:j=4:=al
   match ws,ca,nN,jM,Rl,ai with
   |[w0,w1,ga,iR],_,_,_,_,ai=>rw[<-ai];refine Eq.symm (Eq.symm ?_);kernel_rfl
  .first
    |(cases h;done)
    |exact absurd (u5 h).2 (by intro hh;cases hh)
def RH(lm:List AV)(d:List UInt8):List AV:=((gj (.str d) lm).cells.headD .J).toList
def nf(x y:Int)(us lm:List AV)(st:List AV×List AV)(d:AV):List AV×List AV:=bif u1 x (bm d) st.1 us then(gG (.str (bm d)) (.int .i64 (i64.wrap (ht (bm d) st.1+1))) st.1,st.2++[.agg [.int .i64 y,.str (bm d),.ab gm (RH lm (bm d))]])else st
noncomputable def hv(p:Prop):Bool:=@decide p (Classical.propDecidable p)
def wC{p:Prop}(h:hv p=true):p:=@of_decide_eq_true _ (Classical.propDecidable _) h
def mN{p:Prop}(h:p):hv p=true:=@decide_eq_true _ (Classical.propDecidable _) h
def F2(lm:List AV):Bool:=jb .str (.slice (.int .i64)) lm
def sN(x y:Int)(us lm ds ms out:List AV):List AV:=(ds.foldl (nf x y us lm) (ms,out)).1
def sO(x y:Int)(us lm ds ms out:List AV):List AV:=(ds.foldl (nf x y us lm) (ms,out)).2
def ar2(x y:Int)(us lm:List AV){ds:List AV}{j:Nat}(h:j<ds.length)(ms out:List AV):sN x y us lm (ds.drop j) ms out=sN x y us lm (ds.drop (j+1)) (nf x y us lm (ms,out) (ds.getD j .J)).1 (nf x y us lm (ms,out) (ds.getD j .J)).2:=by unfold sN;rw[tP _ _ _ _ h]
def ar3(x y:Int)(us lm:List AV){ds:List AV}{j:Nat}(h:j<ds.length)(ms out:List AV):sO x y us lm (ds.drop j) ms out=sO x y us lm (ds.drop (j+1)) (nf x y us lm (ms,out) (ds.getD j .J)).1 (nf x y us lm (ms,out) (ds.getD j .J)).2:=by unfold sO;rw[tP _ _ _ _ h]
def ar4(rec:List AV)(dn:Int)(c2:Int)(us:List AV)(dk:List AV)(dY:Int)(fc:List UInt8)(fe:List AV)(ff:List UInt8)(au:List AV)(eK:List AV)(cF:Int)(d':Int)(fg:Int)(wp:List AV)(lm:List AV)(ds:List AV)(m o:List AV):List (Option Row):=[some (.box false rec),some (.box false [.int .i64 dn,.int .i64 c2]),some (.box false [.own 1125899906842627]),some (.box false [.ct m]),some (.box false [.own 1125899906842629]),some (.box false [.ct us]),some (.box false [.own 9985]),none,some (.box false [.int .i64 dY,.str fc,.ab (.agg [.str,.int .i64]) fe,.str ff,.ab (.agg [.str,.str]) au,.ab (.int .u8) eK,.int .i64 cF,.int .i64 d',.int .i64 fg,.ab (.agg [.str,.int .i64,.int .i64,.bool]) wp]),some (.arr false (.agg [.int .i64,.str,.slice (.agg [.str,.int .i64]),.str,.slice (.agg [.str,.str]),.slice (.int .u8),.int .i64,.int .i64,.int .i64,.slice (.agg [.str,.int .i64,.int .i64,.bool])]) 89 dk none),some (.box false [.ct lm]),some (.arr false .str 9 ds none),some (.arr false (.agg [.int .i64,.str,.slice (.int .i64)]) 49 o none)]
noncomputable def acx(p q1 cO:Nat)(n i:Int)(c4:Int)(de:List UInt8)(cE:List AV)(dH:List UInt8)(aD:List AV)(cY:List AV)(r1:Int)(cQ:Int)(c6:Int)(wr:List AV)(rec:List AV)(dn:Int)(c2:Int)(b2:Nat)(ms:List AV)(bX:Nat)(us:List AV)(c3:Nat)(dY:Int)(fc:List UInt8)(fe:List AV)(ff:List UInt8)(au:List AV)(eK:List AV)(cF:Int)(d':Int)(fg:Int)(wp:List AV)(dk:List AV)(gQ:Option Row)(gR:Option Row)(gS:Option Row):a6 cy:=match gQ,gR,gS with
 |some (.box false [.ct lm]),some (.arr false .str 9 ds none),some (.arr false (.agg [.int .i64,.str,.slice (.int .i64)]) 49 out none)=>.bt (hv ((out.length:Int)+((ds.length:Int)-i)<=1000000/\ds.length<=4)&&((p==aE&&(Nat.beq q1 9990&&(Nat.beq cO 64&&(Nat.beq b2 1125899906842627&&(Nat.beq bX 1125899906842629&&(Nat.beq c3 9985&&kS mG rec))))))&&(bl n i ds.length&&(fX (ms,us)&&(F2 lm&&ds.all (λd=>dq (.str (bm d)) lm)))))) (.leaf (.exit 2,[.own aE,yk c4 de cE dH aD cY r1 cQ c6 wr,.own 64,.own 9990,.int .i64 ds.length,.int .i64 ds.length],ar4 rec dn c2 us dk dY fc fe ff au eK cF d' fg wp lm ds (sN dY c4 us lm (ds.drop i.toNat) ms out) (sO dY c4 us lm (ds.drop i.toNat) ms out)))
 |_,_,_=>.no
noncomputable def acy(p q1 cO:Nat)(n i:Int)(c4:Int)(de:List UInt8)(cE:List AV)(dH:List UInt8)(aD:List AV)(cY:List AV)(r1:Int)(cQ:Int)(c6:Int)(wr:List AV)(rec:List AV)(dn:Int)(c2:Int)(b2:Nat)(ms:List AV)(bX:Nat)(us:List AV)(c3:Nat)(dY:Int)(fc:List UInt8)(fe:List AV)(ff:List UInt8)(au:List AV)(eK:List AV)(cF:Int)(d':Int)(fg:Int)(wp:List AV)(fh:Option Row)(gQ:Option Row)(gR:Option Row)(gS:Option Row):a6 cy:=match fh with
 |some (.arr false (.agg [.int .i64,.str,.slice (.agg [.str,.int .i64]),.str,.slice (.agg [.str,.str]),.slice (.int .u8),.int .i64,.int .i64,.int .i64,.slice (.agg [.str,.int .i64,.int .i64,.bool])]) 89 dk none)=>acx p q1 cO n i c4 de cE dH aD cY r1 cQ c6 wr rec dn c2 b2 ms bX us c3 dY fc fe ff au eK cF d' fg wp dk gQ gR gS
 |_=>.no
noncomputable def acz(p q1 cO:Nat)(n i:Int)(c4:Int)(de:List UInt8)(cE:List AV)(dH:List UInt8)(aD:List AV)(cY:List AV)(r1:Int)(cQ:Int)(c6:Int)(wr:List AV)(rec:List AV)(dn:Int)(c2:Int)(b2:Nat)(ms:List AV)(bX:Nat)(us:List AV)(c3:Nat)(gd:Option Row)(fh:Option Row)(gQ:Option Row)(gR:Option Row)(gS:Option Row):a6 cy:=match gd with
 |some (.box false [.int .i64 dY,.str fc,.ab (.agg [.str,.int .i64]) fe,.str ff,.ab (.agg [.str,.str]) au,.ab (.int .u8) eK,.int .i64 cF,.int .i64 d',.int .i64 fg,.ab (.agg [.str,.int .i64,.int .i64,.bool]) wp])=>acy p q1 cO n i c4 de cE dH aD cY r1 cQ c6 wr rec dn c2 b2 ms bX us c3 dY fc fe ff au eK cF d' fg wp fh gQ gR gS
 |_=>.no
noncomputable def acA(p q1 cO:Nat)(n i:Int)(c4:Int)(de:List UInt8)(cE:List AV)(dH:List UInt8)(aD:List AV)(cY:List AV)(r1:Int)(cQ:Int)(c6:Int)(wr:List AV)(rec:List AV)(dn:Int)(c2:Int)(b2:Nat)(ms:List AV)(bX:Nat)(us:List AV)(e3:Option Row)(hD:Option Row)(gd:Option Row)(fh:Option Row)(gQ:Option Row)(gR:Option Row)(gS:Option Row):a6 cy:=match e3,hD with
 |some (.box false [.own c3]),none=>acz p q1 cO n i c4 de cE dH aD cY r1 cQ c6 wr rec dn c2 b2 ms bX us c3 gd fh gQ gR gS
 |_,_=>.no
noncomputable def acB(p q1 cO:Nat)(n i:Int)(c4:Int)(de:List UInt8)(cE:List AV)(dH:List UInt8)(aD:List AV)(cY:List AV)(r1:Int)(cQ:Int)(c6:Int)(wr:List AV)(rec:List AV)(dn:Int)(c2:Int)(b2:Nat)(hC:Option Row)(gP:Option Row)(gb:Option Row)(e3:Option Row)(hD:Option Row)(gd:Option Row)(fh:Option Row)(gQ:Option Row)(gR:Option Row)(gS:Option Row):a6 cy:=match hC,gP,gb with
 |some (.box false [.ct ms]),some (.box false [.own bX]),some (.box false [.ct us])=>acA p q1 cO n i c4 de cE dH aD cY r1 cQ c6 wr rec dn c2 b2 ms bX us e3 hD gd fh gQ gR gS
 |_,_,_=>.no
noncomputable def acC(p q1 cO:Nat)(n i:Int)(c4:Int)(de:List UInt8)(cE:List AV)(dH:List UInt8)(aD:List AV)(cY:List AV)(r1:Int)(cQ:Int)(c6:Int)(wr:List AV)(fL:Option Row)(iI:Option Row)(h9:Option Row)(hC:Option Row)(gP:Option Row)(gb:Option Row)(e3:Option Row)(hD:Option Row)(gd:Option Row)(fh:Option Row)(gQ:Option Row)(gR:Option Row)(gS:Option Row):a6 cy:=match fL,iI,h9 with
 |some (.box false rec),some (.box false [.int .i64 dn,.int .i64 c2]),some (.box false [.own b2])=>acB p q1 cO n i c4 de cE dH aD cY r1 cQ c6 wr rec dn c2 b2 hC gP gb e3 hD gd fh gQ gR gS
 |_,_,_=>.no
noncomputable def acD(p q1 cO:Nat)(n i:Int)(c4:Int)(de:List UInt8)(cE:List AV)(dH:List UInt8)(aD:List AV)(cY:List AV)(r1:Int)(cQ:Int)(c6:Int)(wr:List AV)(rs:List (Option Row)):a6 cy:=match rs with
 |[fL,iI,h9,hC,gP,gb,e3,hD,gd,fh,gQ,gR,gS]=>acC p q1 cO n i c4 de cE dH aD cY r1 cQ c6 wr fL iI h9 hC gP gb e3 hD gd fh gQ gR gS
 |_=>.no
noncomputable def acE(p q1 cO:Nat)(n i:Int)(v1:AV)(rs:List (Option Row)):a6 cy:=match v1 with
 |.ref [.int .i64 c4,.str de,.ab (.agg [.str,.int .i64]) cE,.str dH,.ab (.agg [.str,.str]) aD,.ab (.int .u8) cY,.int .i64 r1,.int .i64 cQ,.int .i64 c6,.ab (.agg [.str,.int .i64,.int .i64,.bool]) wr]=>acD p q1 cO n i c4 de cE dH aD cY r1 cQ c6 wr rs
 |_=>.no
noncomputable def acF(vs:List AV)(rs:List (Option Row)):a6 cy:=match vs with
 |[.own p,v1,.own cO,.own q1,.int .i64 n,.int .i64 i]=>acE p q1 cO n i v1 rs
 |_=>.no
noncomputable def K1:Ev.Loop:=⟨{len:=60,dr:=[0,1,4,43,44,45],rows:=[aE,aE+1,aE+2,aE+3,aE+4,aE+5,aE+6,aE+7,aE+8,aE+9,64,9990,9985],cells:=[(64,2000,9989,0),(aE+6,0,9985,49)]},dP acF⟩
def ar5(vs:List AV)(_:List (Option Row)):Nat:=match vs with
 |[_,_,_,_,.int _ n,.int _ i]=>(n-i).toNat
 |_=>0
def acG:shOf Tryz.prog depth 23=.slice (.int .i64):=aG
def abr{ms us:List AV}(h:fX (ms,us)=true)(d:List UInt8)(n:Int):fX (gG (.str d) (.int .i64 n) ms,us)=true:=by unfold fX at h⊢;rw[ba]at h;exact aV (QI rfl rfl h.1) h.2
def aqQ(K:List (Nat×Ev.Loop)):dj Tryz.prog F3 K abn K1:=by
 refine ed Rh.dX rfl (ch.nil aG) ar5 (λaj vs rs k r h=>?_);unfold acF at h;split at h;rotate_left
 .cases h
 rename_i p v1 cO q1 n i;unfold acE at h;split at h;rotate_left
 .cases h
 rename_i c4 de cE dH aD cY r1 cQ c6 wr;unfold acD at h;split at h;rotate_left
 .cases h
 rename_i fL iI h9 hC gP gb e3 hD gd fh gQ gR gS;unfold acC at h;split at h;rotate_left
 .cases h
 rename_i rec dn c2 b2;unfold acB at h;split at h;rotate_left
 .cases h
 rename_i ms bX us;unfold acA at h;split at h;rotate_left
 .cases h
 rename_i c3;unfold acz at h;split at h;rotate_left
 .cases h
 rename_i dY fc fe ff au eK cF d' fg wp;unfold acy at h;split at h;rotate_left
 .cases h
 rename_i dk;unfold acx at h;split at h;rotate_left
 .cases h
 rename_i lm ds out;obtain⟨mH,ai⟩:=u5 h;simp only[ba]at mH;obtain⟨wB,⟨AD,F5,F6,RE,RF,RG,u6⟩,mH,u7,F4,jM⟩:=mH;obtain rfl:=cH F5;obtain rfl:=cH F6;obtain rfl:p=aE:=by simpa using AD
 obtain rfl:=cH RE;obtain rfl:=cH RF;obtain rfl:=cH RG;have acH:jb .str (.slice (.int .i64)) lm=true:=F4;have wB:=wC wB;obtain⟨rfl,nN,j,rfl,Rl⟩:=eA mH;have oR:=u6;obtain⟨nU,nV,nW,nX,nY,nZ,n1,n2,n5,n7,n8,n9,n',oa,ob,oc,od,oe,oh,oi,oj,om,oo,oq,ot,ou,ov,ow,oy,oA,oB,oC,oD,oE,rfl⟩:=Ri u6;rw[bK]at ai;refine bn (b:=have av:=(u9 nU nV nW nX nY nZ n1 n2 n5 n7 n8 n9 n' oa ob oc od oe oh oi oj om oo oq ot ou ov ow oy oA oB oC oD oE);have aO:=(bm (ds.getD j .J));have aZ:=(ds.length:Int);have bF:=(aZ-i64.wrap ((j:Int)+(1:Int)));have bI:=(AV.I (i64.wrap (ht aO ms+(1:Int))));have b3:=(Row.box false [.own 1125899906842627]);have cd:=(Row.box false [.own 1125899906842629]);have cJ:=(Sh.agg [.int .i64,.str,.slice (.int .i64)]);have dD:=(Row.box false [.I dn,.I c2]);have fM:=(Row.arr false .str 9 ds none);have ft:=(Row.box false [.own 9985]);have gC:=(i64.wrap ((j:Int)+(1:Int)));have bd:=(List.drop gC.toNat ds);have fQ:=(Row.box false [.ct us]);have hN:=(Row.box false [.ct lm]);have gO:=(Sh.agg [.str,.int .i64,.int .i64,.bool]);have az:=(Row.box false [AV.int i64 dY,AV.str fc,AV.ab (Sh.agg [Sh.str,Sh.int i64]) fe,AV.str ff,AV.ab (Sh.agg [Sh.str,Sh.str]) au,AV.ab (Sh.int u8) eK,AV.int i64 cF,AV.int i64 d',AV.int i64 fg,AV.ab gO wp]);have aF:=(Row.arr false (.agg [.int .i64,.str,.slice (.agg [.str,.int .i64]),.str,.slice (.agg [.str,.str]),.slice (.int .u8),.int .i64,.int .i64,.int .i64,gO.slice]) 89 dk none);have gu:=decide (bF.toNat<(aZ-(j:Int)).toNat);have gZ:=(yk c4 de cE dH aD cY r1 cQ c6 wr);have bk:=[AV.own 1125899906842624,gZ,.own 64,.own 9990,.I aZ,.I aZ];have ji:=(AV.str aO);have aI:=(out++[AV.agg [.I c4,.str aO,.ab gm ((gj ji lm).cells.headD .J).toList]]);have kZ:=(Ex.exit 2);have kY:=(Row.box false av);bif decide ((j:Int)<aZ)then bif inb (j:Int) ds.length then bif decide (j<ds.length)then bif jb (shOf Tryz.prog depth 9) (shOf Tryz.prog depth 23) lm then bif dq ji lm then bif aE==aE&&(kS mG av&&(decide (out.length<=1000000)&&fX (ms,us)))then bif u1 dY aO ms us then bif gu then bif hv ((aI.length:Int)+bF<=(1000000:Int)/\ds.length<=4)&&(aE==aE&&(Nat.beq 9990 9990&&(Nat.beq 64 64&&(Nat.beq 1125899906842627 1125899906842627&&(Nat.beq 1125899906842629 1125899906842629&&((9985:Nat).beq 9985&&kS mG av)))))&&(bl aZ gC ds.length&&(fX (gG ji bI ms,us)&&(F2 lm&&ds.all λd=>dq (.str (bm d)) lm))))then k kZ bk [some kY,some dD,some b3,some (.box false [.ct (sN dY c4 us lm bd (gG ji bI ms) aI)]),some cd,some fQ,some ft,none,some az,some aF,some hN,some fM,some (.arr false cJ 49 (sO dY c4 us lm bd (gG ji bI ms) aI) none)]else none else none else bif gu then bif hv ((out.length:Int)+bF<=(1000000:Int)/\ds.length<=4)&&(aE==aE&&(Nat.beq 9990 9990&&(Nat.beq 64 64&&(Nat.beq 1125899906842627 1125899906842627&&(Nat.beq 1125899906842629 1125899906842629&&(Nat.beq 9985 9985&&kS mG av)))))&&(bl aZ gC ds.length&&(fX (ms,us)&&(F2 lm&&ds.all λd=>dq (.str (bm d)) lm))))then k kZ bk [some kY,some dD,some b3,some (.box false [.ct (sN dY c4 us lm bd ms out)]),some cd,some fQ,some ft,none,some az,some aF,some hN,some fM,some (.arr false cJ 49 (sO dY c4 us lm bd ms out) none)]else none else none else none else none else none else none else none else k kZ [.own 1125899906842624,gZ,.own 64,.own 9990,.I aZ,.I (j:Int)] [some kY,some dD,some b3,some (.box false [.ct ms]),some cd,some fQ,some ft,none,some az,some aF,some hN,some fM,some (.arr false cJ 49 out none)]) ?_;conv=>zeta
 rw[<-ai];by_cases aL:j<ds.length
 .obtain⟨aU,bc,bw,bQ,bN⟩:=ew aL nN;have af:dq (.str (bm (ds.getD j .J))) lm=true:=jg jM aL;have k9:decide (out.length<=1000000)=true:=aS al;have b2:hv ((out.length:Int)+((ds.length:Int)-((j+1:Nat):Int))<=1000000/\ds.length<=4)=true:=mN ⟨al,wB.2⟩;have bX:∀x:AV,hv (((out++[x]).length:Int)+((ds.length:Int)-((j+1:Nat):Int))<=1000000/\ds.length<=4)=true:=λx=>mN ⟨s3,wB.2⟩;have c3:=λn=>abr u7 (bm (ds.getD j .J)) n;rw[ar2 dY c4 us lm aL,ar3 dY c4 us lm aL];have fA:nf dY c4 us lm (ms,out) (ds.getD j .J)=bif u1 dY (bm (ds.getD j .J)) ms us then(gG (.str (bm (ds.getD j .J))) (.int .i64 (i64.wrap (ht (bm (ds.getD j .J)) ms+1))) ms,out++[.agg [.int .i64 c4,.str (bm (ds.getD j .J)),.ab gm ((gj (.str (bm (ds.getD j .J))) lm).cells.headD .J).toList]])else(ms,out):=rfl;rw[fA];cases ag:u1 dY (bm (ds.getD j .J)) ms us
  .simp only[aU,bc,bw,bQ,bN,af,k9,b2,u7,oR,F4,acH,jM,CH,acG,ag,aS aL,ha,b9,b4,cU,jz,bK];rfl
  .simp only[aU,bc,bw,bQ,bN,af,k9,bX,c3,u7,oR,F4,acH,jM,CH,acG,ag,aS aL,ha,b9,b4,cU,jz,bK];rfl
 .obtain rfl:j=ds.length:=al;exact oQ
def dj.sub{b:Code}{aq:Env}{N:Norm}{p fk:List AV->List (Option Row)->a6 cy}(h:dj Tryz.prog aq K b ⟨N,dP p⟩)(au:∀(aj:Type)(vs:List AV)(rs:List (Option Row))(k:cy->Option aj)(r:aj),(fk vs rs).run k=some r->(p vs rs).run k=some r):dj Tryz.prog aq K b ⟨N,dP fk⟩:=⟨λaj vs rs k r aD=>h.1 aj vs rs k r (au aj vs rs _ r aD),λ_ vs rs k=>a6.run_bind (α:=cy) (Cw:=cy) (λq=>some (q.1,q.2.1,q.2.2)) (λq=>k q.1 q.2.1 q.2.2) (fk vs rs)⟩
noncomputable def AB(a b:List (List UInt8×List AV)):Bool:=@decide (a=b) (Classical.propDecidable _)
def abi{b:List (List UInt8×List AV)}(h:AB a b=true):a=b:=@of_decide_eq_true _ (Classical.propDecidable _) h
def aqL:AB a a=true:=@decide_eq_true _ (Classical.propDecidable _) rfl
noncomputable def acI(cR:List (List UInt8×List AV))(v1:AV)(AJ:List (List UInt8×List AV)->List (Option Row))(ws:List AV)(i:Int)(rs:List (Option Row)):a6 cy:=match rs with
 |[some (.box false [.tup []]),some (.arr false .str 9 [] none),none,none,none,none]=>.bt (decide (0<=i)&&AB (iy i.toNat (ws.drop i.toNat) []) cR) (.leaf (.exit 0,[.own aE,v1,.own 9990,.own 64,.ab fW ws,.int .i64 ws.length,.int .i64 ws.length],AJ cR))
 |_=>.no
noncomputable def acJ(cR:List (List UInt8×List AV))(p q1 cO:Nat)(ws:List AV)(n i:Int)(c4:Int)(de:List UInt8)(cE:List AV)(dH:List UInt8)(aD:List AV)(cY:List AV)(r1:Int)(cQ:Int)(c6:Int)(wr:List AV)(rec:List AV)(dn:Int)(c2:Int)(b2:Nat)(ms:List AV)(bX:Nat)(us:List AV)(c3:Nat)(out:List AV)(dY:Int)(fc:List UInt8)(fe:List AV)(ff:List UInt8)(au:List AV)(eK:List AV)(cF:Int)(d':Int)(fg:Int)(wp:List AV)(fh:Option Row)(gQ:Option Row)(gR:Option Row)(gS:Option Row)(kj:Option Row)(kk:Option Row)(kl:Option Row):a6 cy:=match fh with
 |some (.arr false (.agg [.int .i64,.str,.slice (.agg [.str,.int .i64]),.str,.slice (.agg [.str,.str]),.slice (.int .u8),.int .i64,.int .i64,.int .i64,.slice (.agg [.str,.int .i64,.int .i64,.bool])]) 89 dk none)=>.bt ((p==aE&&(Nat.beq q1 9990&&(Nat.beq cO 64&&(Nat.beq b2 1125899906842627&&(Nat.beq bX 1125899906842629&&(Nat.beq c3 1125899906842631&&kS mG rec))))))&&(bl n i ws.length&&(decide (ws.length<=4)&&ws.all eh))) (acI cR (yk c4 de cE dH aD cY r1 cQ c6 wr) (pe rec dn c2 ms us out dk dY fc fe ff au eK cF d' fg wp) ws i [gQ,gR,gS,kj,kk,kl])
 |_=>.no
noncomputable def acK(cR:List (List UInt8×List AV))(p q1 cO:Nat)(ws:List AV)(n i:Int)(c4:Int)(de:List UInt8)(cE:List AV)(dH:List UInt8)(aD:List AV)(cY:List AV)(r1:Int)(cQ:Int)(c6:Int)(wr:List AV)(rec:List AV)(dn:Int)(c2:Int)(b2:Nat)(ms:List AV)(bX:Nat)(us:List AV)(c3:Nat)(out:List AV)(gd:Option Row)(fh:Option Row)(gQ:Option Row)(gR:Option Row)(gS:Option Row)(kj:Option Row)(kk:Option Row)(kl:Option Row):a6 cy:=match gd with
 |some (.box false [.int .i64 dY,.str fc,.ab (.agg [.str,.int .i64]) fe,.str ff,.ab (.agg [.str,.str]) au,.ab (.int .u8) eK,.int .i64 cF,.int .i64 d',.int .i64 fg,.ab (.agg [.str,.int .i64,.int .i64,.bool]) wp])=>acJ cR p q1 cO ws n i c4 de cE dH aD cY r1 cQ c6 wr rec dn c2 b2 ms bX us c3 out dY fc fe ff au eK cF d' fg wp fh gQ gR gS kj kk kl
 |_=>.no
noncomputable def acL(cR:List (List UInt8×List AV))(p q1 cO:Nat)(ws:List AV)(n i:Int)(c4:Int)(de:List UInt8)(cE:List AV)(dH:List UInt8)(aD:List AV)(cY:List AV)(r1:Int)(cQ:Int)(c6:Int)(wr:List AV)(rec:List AV)(dn:Int)(c2:Int)(b2:Nat)(ms:List AV)(bX:Nat)(us:List AV)(e3:Option Row)(hD:Option Row)(gd:Option Row)(fh:Option Row)(gQ:Option Row)(gR:Option Row)(gS:Option Row)(kj:Option Row)(kk:Option Row)(kl:Option Row):a6 cy:=match e3,hD with
 |some (.box false [.own c3]),some (.arr false (.agg [.int .i64,.str,.slice (.int .i64)]) 49 out none)=>acK cR p q1 cO ws n i c4 de cE dH aD cY r1 cQ c6 wr rec dn c2 b2 ms bX us c3 out gd fh gQ gR gS kj kk kl
 |_,_=>.no
noncomputable def acM(cR:List (List UInt8×List AV))(p q1 cO:Nat)(ws:List AV)(n i:Int)(c4:Int)(de:List UInt8)(cE:List AV)(dH:List UInt8)(aD:List AV)(cY:List AV)(r1:Int)(cQ:Int)(c6:Int)(wr:List AV)(rec:List AV)(dn:Int)(c2:Int)(b2:Nat)(hC:Option Row)(gP:Option Row)(gb:Option Row)(e3:Option Row)(hD:Option Row)(gd:Option Row)(fh:Option Row)(gQ:Option Row)(gR:Option Row)(gS:Option Row)(kj:Option Row)(kk:Option Row)(kl:Option Row):a6 cy:=match hC,gP,gb with
 |some (.box false [.ct ms]),some (.box false [.own bX]),some (.box false [.ct us])=>acL cR p q1 cO ws n i c4 de cE dH aD cY r1 cQ c6 wr rec dn c2 b2 ms bX us e3 hD gd fh gQ gR gS kj kk kl
 |_,_,_=>.no
noncomputable def acN(cR:List (List UInt8×List AV))(p q1 cO:Nat)(ws:List AV)(n i:Int)(c4:Int)(de:List UInt8)(cE:List AV)(dH:List UInt8)(aD:List AV)(cY:List AV)(r1:Int)(cQ:Int)(c6:Int)(wr:List AV)(fL:Option Row)(iI:Option Row)(h9:Option Row)(hC:Option Row)(gP:Option Row)(gb:Option Row)(e3:Option Row)(hD:Option Row)(gd:Option Row)(fh:Option Row)(gQ:Option Row)(gR:Option Row)(gS:Option Row)(kj:Option Row)(kk:Option Row)(kl:Option Row):a6 cy:=match fL,iI,h9 with
 |some (.box false rec),some (.box false [.int .i64 dn,.int .i64 c2]),some (.box false [.own b2])=>acM cR p q1 cO ws n i c4 de cE dH aD cY r1 cQ c6 wr rec dn c2 b2 hC gP gb e3 hD gd fh gQ gR gS kj kk kl
 |_,_,_=>.no
noncomputable def acO(cR:List (List UInt8×List AV))(p q1 cO:Nat)(ws:List AV)(n i:Int)(c4:Int)(de:List UInt8)(cE:List AV)(dH:List UInt8)(aD:List AV)(cY:List AV)(r1:Int)(cQ:Int)(c6:Int)(wr:List AV)(rs:List (Option Row)):a6 cy:=match rs with
 |[fL,iI,h9,hC,gP,gb,e3,hD,gd,fh,gQ,gR,gS,kj,kk,kl]=>acN cR p q1 cO ws n i c4 de cE dH aD cY r1 cQ c6 wr fL iI h9 hC gP gb e3 hD gd fh gQ gR gS kj kk kl
 |_=>.no
noncomputable def acP(cR:List (List UInt8×List AV))(p q1 cO:Nat)(ws:List AV)(n i:Int)(v1:AV)(rs:List (Option Row)):a6 cy:=match v1 with
 |.ref [.int .i64 c4,.str de,.ab (.agg [.str,.int .i64]) cE,.str dH,.ab (.agg [.str,.str]) aD,.ab (.int .u8) cY,.int .i64 r1,.int .i64 cQ,.int .i64 c6,.ab (.agg [.str,.int .i64,.int .i64,.bool]) wr]=>acO cR p q1 cO ws n i c4 de cE dH aD cY r1 cQ c6 wr rs
 |_=>.no
noncomputable def acQ(cR:List (List UInt8×List AV))(vs:List AV)(rs:List (Option Row)):a6 cy:=match vs with
 |[.own p,v1,.own q1,.own cO,.ab (.agg [.str,.int .i64,.int .i64,.bool]) ws,.int .i64 n,.int .i64 i]=>acP cR p q1 cO ws n i v1 rs
 |_=>.no
noncomputable def K0(cR:List (List UInt8×List AV)):Ev.Loop:=⟨acr.N,dP (acQ cR)⟩
def aqP(cR:List (List UInt8×List AV))(K:List (Nat×Ev.Loop)):dj Tryz.prog F3 K Rf (K0 cR):=by
 refine dj.sub (p:=RD) (ar1 K) λaj vs rs k r h=>?_;unfold acQ at h;split at h;rotate_left
 .cases h
 rename_i p v1 q1 cO ws n i;unfold acP at h;split at h;rotate_left
 .cases h
 rename_i c4 de cE dH aD cY r1 cQ c6 wr;unfold acO at h;split at h;rotate_left
 .cases h
 rename_i fL iI h9 hC gP gb e3 hD gd fh gQ gR gS kj kk kl;unfold acN at h;split at h;rotate_left
 .cases h
 rename_i rec dn c2 b2;unfold acM at h;split at h;rotate_left
 .cases h
 rename_i ms bX us;unfold acL at h;split at h;rotate_left
 .cases h
 rename_i c3 out;unfold acK at h;split at h;rotate_left
 .cases h
 rename_i dY fc fe ff au eK cF d' fg wp;unfold acJ at h;split at h;rotate_left
 .cases h
 rename_i dk;obtain⟨mH,ao⟩:=u5 h;clear h;unfold acI at ao;split at ao
 .rename_i heq;simp only[jY,po]at heq;obtain⟨rfl,rfl,rfl,rfl,rfl,rfl⟩:=heq;obtain⟨ar6,a1⟩:=u5 ao;obtain⟨ar7,nN⟩:=jn.1 ar6;obtain rfl:=abi nN;exact aT (a' mH) (aT (a' ar7) a1)
 .cases ao
def ar8{P:Program}{aq:Env}(bR:aM P aq)(dS:uG P aq){f:FuncId}{fn:Func}(dW:P.funcs[f]?=some fn){F:jD}(hF:∀aj aA rows k r,F aj aA rows k=some r->rows.length<=1000000/\∃K H,(∀c,fn.body=some c->ch P aq K c)/\th P aq K H fn aj aA rows k=some r)(aD:aq.j4=[]:=by rfl):fH P f F:=by
 have h5:∀c,fn.body=some c->iQ aq none c:=λc _=>iQ.no aD c;intro aj w S B β og aA rows args k r ep k7 l6 ar bu;obtain⟨k7,iG⟩:=k7;obtain⟨k3,K,H,lP,he⟩:=hF aj aA rows k r bu;have rV:∀(j:Nat)(r:Row),rows[j]?=some r->eb w S B β (aE+j) (og (aE+j)) r:=λj r aP=>ep.row _ _ (OA rows aE j r aP);unfold th at he;cases ag:fn.body with
 |none=>simp[ag]at he
 |some c=>
  simp only[ag,bC.force_eq]at he;refine Goes.of dW ag (yM.1 (callsIn_of_wp_marks (F:=Fence.wide) (n:=0) dW ag trivial ?_));have xa:∀m,VRels w S β (List.replicate m AV.undef) (List.replicate m undef):=by
   intro m;induction m with
   |zero=>exact VRels.nil
   |succ m ih=>exact VRels.cons (.undef _) ih
  have eE:eX w S ⟨B,β,[]⟩ (bC.mk (aA++List.replicate (fn.ntmps-aA.length) .undef) (ik aE rows) (List.range' aE rows.length)) {tmps:=args.toArray++Array.replicate (fn.ntmps-args.toArray.size) undef,defers:=[]} w:=by
   refine⟨S,β,og,⟨?_,rfl,λid r aD=>?_,ep.inj,ep.lt,λid x ak=>?_,ep.one,ep.dF,ep.dZ,λid x _ ak=>ak⟩,⟨oZ.refl iG,λ_ h=>.inl h,λ_ h=>h⟩⟩
   .have:(args.toArray++Array.replicate (fn.ntmps-args.toArray.size) undef).toList=args++List.replicate (fn.ntmps-aA.length) undef:=by simp[ar.1]
    exact Tr
   .exact Tm
   .obtain⟨af,ao⟩:=l6 id x ak;show id∈List.range' aE rows.length;rw[A8];exact⟨af,ao⟩
  have HN:aE+1000000<bY:=gn;have OC:∀id x,(Ctx.mk B β []).kH id=some x->id<bY:=λid x ak=>by have:=(l6 id x ak).2;omega
  refine xN (R:=none) bR dS c (lP c ag) (h5 c ag) aj _ _ _ _ w _ he eE.e λe bB cL w' ai ak=>?_;have fin:(homes H bB λst=>tg P fn rows.length st k)=some r->LeavesInM Fence.wide 0 P fn cL.tmps (λe w'=>∃u v c1 cf S' bD dO,e=.returned u/\k v c1 cf=some r/\uz w S B β c1 cf v u w' S' bD dO) cL.defers .returning w':=λaR=>by obtain⟨w1,hc,dR,cg,l3,mQ,ko,k8,vF⟩:=ak;refine Oj cg rfl k8 vF λOy ak=>?_;have kI:=foldl_rel (λst x h=>eX.qg h x) H bB ak;obtain⟨u,bu,v,c1,cf,S',bD,dO,hp,bq⟩:=Oz kI OC (OB aR);exact⟨u,bu,u,v,c1,cf,S',bD,dO,rfl,hp,bq⟩
  cases e with
  |ret=>exact fin ai
  |normal=>exact fin ai
  |exit id=>cases ai
def AE{aq:Env}{H:List (Nat×Nat×TypeId)}(bR:aM prog aq){f:Nat}{fn:Func}(dW:prog.funcs[f]?=some fn){bs:List Code}(ay:fn.body.map c7=some bs)(eD:∀b∈bs,∃l,lH K (mP b)=some l/\dj prog aq K b l)
  {F:jD}(hF:∀aj aA rows k r,F aj aA rows k=some r->rows.length<=1000000/\th prog aq K H fn aj aA rows k=some r)(jF:aq.j4=[]:=by rfl):fH prog f F:=
 ar8 bR (so bR sy) dW (λaj aA rows k r h=>⟨(hF aj aA rows k r h).1,K,H,λc aa=>ch.all wX eD,(hF aj aA rows k r h).2⟩) jF
def Lm(n:Int)(i:Int):AV:=.int .u8 (u8.wrap ((u64.wrap n).fdiv (2^ (min (i64.wrap (8*i)).toNat 64))))
def ym(n:Int):Nat->Nat->List AV
 |0,_=>[]
 |k+1,i=>Lm n i::ym n k (i+1)
def acR(n:Int):List AV:=ym n 8 0
def acS(n:Int):∀k i,(ym n k i).length=k
 |0,_=>rfl
 |k+1,i=>by simp[ym,acS n k (i+1)]
def ar9(n:Int):(acR n).length=8:=acS n 8 0
def gy(es:List AV)(n:Int):List AV:=es++acR n
def qb(es:List AV)(n:Int):(gy es n).length=es.length+8:=by unfold gy;rw[fu,ar9]
abbrev fv:Sh:=.int .u8
noncomputable def acT:Code:=((Tryz.f150.body.map c7).getD []).headD .skip
def acU:List AV->List (Option Row)->a6 cy
 |[.ptr p 0,.int .i64 n,.int .i64 i],[some (.box false [.own q]),some (.arr false (.int .u8) 5 es none)]=>.bt (Nat.beq p aE&&(Nat.beq q 9998&&decide (0<=i/\i<=8/\es.length+(8-i.toNat)<=1000000000))) (.leaf (.exit 0,[.ptr aE 0,.int .i64 n,.int .i64 8],[some (.box false [.own 9998]),some (.arr false fv 5 (es++ym n (8-i.toNat) i.toNat) none)]))
 |_,_=>.no
def Ln:Ev.Loop:=⟨{len:=24,dr:=[0,1,5],rows:=[aE,9998],cells:=[(aE,0,9998,5)]},dP acU⟩
def asa(vs:List AV)(_:List (Option Row)):Nat:=match vs with
 |[_,_,.int _ i]=>(8-i).toNat
 |_=>0
def asb:dj prog mC [(1,Ln)] acT Ln:=by
 refine ed bV.dX rfl (ch.nil aG) asa (λaj vs rs k r h=>?_);unfold acU at h;split at h
 .rename_i p n i q es;obtain⟨aa,ai⟩:=bz h;simp only[ba]at aa;obtain⟨au,aH,aX⟩:=aa;obtain⟨d1,d2,d3⟩:=bH aX;obtain rfl:=cH au;obtain rfl:=cH aH;obtain⟨j,rfl⟩:∃j:Nat,i=j:=⟨i.toNat,al⟩;rw[bK]at ai d3;refine bn (b:=have av:=[AV.int .u8 (u8.wrap ((u64.wrap n).fdiv ((2:Int)^min (i64.wrap ((8:Int)*(j:Int))).toNat u64.bits)))];have az:=((j:Int)+(1:Int));have aF:=(8-(i64.wrap az).toNat);have aI:=(Row.box false [.own 9998]);bif decide ((j:Int)<(8:Int))then bif decide (i64.wrap ((8:Int)*(j:Int))<(0:Int))then none else bif roomB (es.length+av.length) (prog.bytesOf 5)then bif decide (((8:Int)-i64.wrap az).toNat<((8:Int)-(j:Int)).toNat)then bif aE.beq aE&&((aE,0,9998,(5:TypeId)).snd.snd.fst.beq 9998&&decide ((0:Int)<=i64.wrap az/\i64.wrap az<=(8:Int)/\(es++av).length+aF<=1000000000))then k (.exit 0) [.ptr 1125899906842624 0,.I n,.I 8] [some aI,some (.arr false (.int .u8) 5 (es++av++ym n aF (i64.wrap az).toNat) none)]else none else none else none else k (.exit 0) [.ptr 1125899906842624 0,.I n,.I (j:Int)] [some aI,some (.arr false (.int .u8) 5 es none)]) ?_;conv=>zeta
  rw[<-ai];by_cases aL:j<8
  .have w1:i64.wrap (8*(j:Int))=8*j:=lT _ al al;have ga:i64.wrap ((j:Int)+1)=((j+1:Nat):Int):=by rw[lT _ al al];omega
   have aJ:ym n (8-j) j=Lm n j::ym n (8-(j+1)) (j+1):=by rw[show 8-j=(8-(j+1))+1 by omega];rfl
   have aD:∀x:AV,roomB (es.length+([x]:List AV).length) (prog.bytesOf 5)=true:=λx=>by rw[Qg,qR];unfold roomB;have af:(es.length+1)*1<=140737488355328:=al;have ao:es.length+1<=4611686018427387904:=al;exact ME
   have ak:Lm n j=.int .u8 (u8.wrap ((u64.wrap n).fdiv (2^ (min (8*(j:Int)).toNat 64)))):=by unfold Lm;rw[w1]
   rw[w1,ga,bK,aJ,ak];refine aT (a' (aS al)) (aT (fP (cZ al)) (aT (a' (aD _)) (aT (a' (aS al)) (aT (a' (aV (b9 _) (aV (b9 _) (aS ⟨al,al,?_⟩)))) ?_))))
   .rw[fu,qR];omega
   .rw[nm];rfl
  .obtain rfl:j=8:=al;refine aT (fP (cZ al)) ?_;show k _ _ [_,some (.arr false fv 5 es none)]=k _ _ [_,some (.arr false fv 5 (es++[]) none)];rw[jy];rfl
 .cases h
def qM:List AV->List Row->a6 hf
 |[.ptr p 0,.int .i64 n],[.box false [.bf (.int .u8)]]=>.bt (Nat.beq p aE) (.leaf (.tup [],[some (.box false [.own bY])],[.arr false fv 5 (gy [] n) none]))
 |[.ptr p 0,.int .i64 n],[.box false [.own q],.arr false (.int .u8) 5 es none]=>.bt (Nat.beq p aE&&(Nat.beq q (aE+1)&&decide (es.length<=900000000))) (.leaf (.tup [],[some (.box false [.own bY]),none],[.arr false fv 5 (gy es n) none]))
 |_,_=>.no
def C3:fH prog 150 (cz qM)/\hA (cz qM):=by
 refine⟨AE (K:=[(1,Ln)]) (bs:=[acT]) (H:=[]) bV Tryz.func150 aG (λb ag=>?_) λaj aA rows k r h=>?_,kQ qM⟩
 .simp only[gv,mh,mi]at ag;subst ag;exact⟨Ln,aG,asb⟩
 change(qM aA rows).run _=some r at h;unfold qM at h;split at h
 .rename_i p n;obtain⟨aa,ai⟩:=bz h;obtain rfl:=cH aa;refine⟨bb,?_⟩;exact aT (b:=k (.tup []) [some (.box false [.own bY])] [.arr false fv 5 (gy [] n) none]) aG ai
 .rename_i p n q es;obtain⟨aa,ai⟩:=bz h;simp only[ba]at aa;obtain⟨au,aH,aX⟩:=aa;have aX:=bH aX;obtain rfl:=cH au;obtain rfl:=cH aH;refine⟨bb,?_⟩;exact aT (b:=bif Nat.beq aE aE&&(Nat.beq 9998 9998&&decide ((0:Int)<=0/\(0:Int)<=8/\es.length+(8-Int.toNat 0)<=1000000000))then k (.tup []) [some (.box false [.own bY]),none] [.arr false fv 5 (gy es n) none]else none) aG (aT (a' (aV (b9 _) (aV (b9 _) (aS ⟨ui _,al,al⟩)))) ai)
 .cases h
def kV(es:List AV)(s:List UInt8):List AV:=gy es s.length++iA s
def sM(es:List AV)(s:List UInt8):(kV es s).length=es.length+8+s.length:=by unfold kV;rw[fu,qb,xD]
def u3:List AV->List Row->a6 hf
 |[.ptr p 0,.str s],[.box false [.bf (.int .u8)]]=>.bt (Nat.beq p aE&&decide (s.length<=100000000)) (.leaf (.tup [],[some (.box false [.own bY])],[.arr false fv 5 (kV [] s) none]))
 |[.ptr p 0,.str s],[.box false [.own q],.arr false (.int .u8) 5 es none]=>.bt (Nat.beq p aE&&(Nat.beq q (aE+1)&&decide (es.length+s.length<=100000000))) (.leaf (.tup [],[some (.box false [.own bY]),none],[.arr false fv 5 (kV es s) none]))
 |_,_=>.no
def Df{n:Nat}(h:n<=1000000000):roomB n (prog.bytesOf 5)=true:=by rw[Qg];unfold roomB;have af:n*1<=140737488355328:=al;have ao:n<=4611686018427387904:=al;exact ME
def Q8:fH prog 149 (cz u3)/\hA (cz u3):=by
 refine⟨AE (K:=[]) (bs:=[]) (H:=[]) (aM.iS bV C3) Tryz.func149 aG (λb ag=>by simp at ag) λaj aA rows k r h=>?_,kQ u3⟩;change(u3 aA rows).run _=some r at h;unfold u3 at h;split at h
 .rename_i p s;obtain⟨aa,ai⟩:=bz h;rw[ba]at aa;obtain⟨au,aX⟩:=aa;have aX:=bH aX;obtain rfl:=cH au;refine⟨bb,?_⟩;refine bn (b:=bif roomB ((gy [] s.length).length+(iA s).length) (prog.bytesOf 5)then k (.tup []) [some (.box false [.own bY])] [.arr false fv 5 (gy [] s.length++iA s) none]else none) ?_;refine aT (a' (Df ?_)) ai;rw[qb,xD,gw];omega
 .rename_i p s q es;obtain⟨aa,ai⟩:=bz h;simp only[ba]at aa;obtain⟨au,aH,aX⟩:=aa;have aX:=bH aX;obtain rfl:=cH au;obtain rfl:=cH aH;refine⟨bb,?_⟩;refine bn (b:=bif((λx=>aE+x) 0).beq aE&&(((λx=>aE+x) ((λx=>x+1) 0)).beq (aE+1)&&decide (es.length<=900000000))then bif roomB ((gy es (s.length:Int)).length+(iA s).length) (prog.bytesOf 5)then k (.tup []) [some (.box false [.own 2251799813685248]),none] [.arr false (.int .u8) 5 (gy es (s.length:Int)++iA s) none]else none else none) ?_;refine aT (a' (aV (b9 _) (aV (b9 _) (aS al)))) (aT (a' (Df ?_)) ai);rw[qb,xD];omega
 .cases h
def C4(h:Int)(bs:List AV):Int:=bs.foldl (λh c=>u64.wrap (u64.wrap (((BitVec.ofInt 64 h^^^BitVec.ofInt 64 (u64.wrap (aW c))).toNat:Int))*1099511628211)) h
noncomputable def acV:Code:=((Tryz.f151.body.map c7).getD []).headD .skip
def acW:List AV->List (Option Row)->a6 cy
 |[.int .u64 a,.ab (.int .u8) bs,.int .i64 n,.int .i64 i],[]=>.bt (bl n i bs.length) (.leaf (.exit 0,[.int .u64 (C4 a (bs.drop i.toNat)),.ab fv bs,.int .i64 n,.int .i64 bs.length],[]))
 |_,_=>.no
def Lo:Ev.Loop:=⟨{len:=19,dr:=[3,6,7,8]},dP acW⟩
def asc(vs:List AV)(_:List (Option Row)):Nat:=match vs with
 |[_,_,.int _ n,.int _ i]=>(n-i).toNat
 |_=>0
def asd:dj prog mC [(3,Lo)] acV Lo:=by
 refine ed bV.dX rfl (ch.nil aG) asc (λaj vs rs k r h=>?_);unfold acW at h;split at h
 .rename_i a bs n i;obtain⟨aa,ai⟩:=bz h;obtain⟨rfl,an,j,rfl,aP⟩:=eA aa;rw[bK]at ai;refine bn (b:=have av:=(bs.length:Int);have az:=((j:Int)+(1:Int));bif decide ((j:Int)<av)then bif inb (j:Int) bs.length then bif decide ((av-i64.wrap az).toNat<(av-(j:Int)).toNat)then bif bl av (i64.wrap az) bs.length then k (.exit 0) [.int .u64 (C4 (u64.wrap (u64.wrap ((BitVec.ofInt u64.bits a^^^BitVec.ofInt u64.bits (u64.wrap (aW (bs.getD j .J)))).toNat:Int)*(1099511628211:Int))) (List.drop (i64.wrap az).toNat bs)),.ab (.int .u8) bs,.I av,.I av] []else none else none else none else k (.exit 0) [.int .u64 a,.ab (.int .u8) bs,.I av,.I (j:Int)] []) ?_;conv=>zeta
  rw[<-ai];by_cases aL:j<bs.length
  .obtain⟨aU,bc,bw,bQ,bN⟩:=ew aL an;unfold C4;rw[tP _ _ _ _ aL];simp only[aU,bc,bw,bQ,bN,b4,bK];rfl
  .obtain rfl:j=bs.length:=al;exact oQ
 .cases h
def FX:List AV->a6 AV
 |[.ab (.int .u8) bs]=>.bt (small bs.length) (.leaf (.int .u64 (C4 14695981039346656037 bs)))
 |_=>.no
def aqf:SumOK prog 151 (aK FX)/\b5 (aK FX):=by
 refine iH (K:=[(3,Lo)]) (b:=acV) (l:=Lo) bV Tryz.func151 aG aG asd λaj aA k r h=>?_;unfold FX at h;split at h
 .rename_i bs;obtain⟨aa,ai⟩:=bz h;refine bn (b:=bif bl (bs.length:Int) (0:Int) bs.length then k (.int .u64 (C4 (14695981039346656037:Int) (List.drop 0 bs)))else none) ?_;rw[<-ai,e1 aa];rfl
 .cases h
noncomputable def ase:Env:={pure:=[],opens:=[(149,cz u3),(150,cz qM)]}
def acX:aM prog ase:=aM.iS (aM.iS bV C3) Q8
def rG(es:List AV)(r:AV):List AV:=gy (kV es (bm r)) (iw r)
def AL:List AV->List Row->a6 hf
 |[.agg [.str a,.int .i64 n],.ptr v 0],[.box false [.ptr w 0],.box false [.own q],.arr false (.int .u8) 5 es none]=>.bt (Nat.beq v aE&&(Nat.beq w (aE+1)&&(Nat.beq q (aE+2)&&decide (es.length+a.length<=90000000)))) (.leaf (.tup [],[some (.box false [.ptr (aE+1) 0]),some (.box false [.own bY]),none],[.arr false fv 5 (gy (kV es a) n) none]))
 |_,_=>.no
def asf:fH prog 178 (cz AL)/\hA (cz AL):=by
 refine⟨AE (K:=[]) (bs:=[]) (H:=[]) acX Tryz.func178 aG (λb ag=>by simp at ag) λaj aA rows k r h=>?_,kQ AL⟩;change(AL aA rows).run _=some r at h;unfold AL at h;split at h
 .rename_i a n v w q es;obtain⟨aa,ai⟩:=bz h;simp only[ba]at aa;obtain⟨ar,hw,aH,aX⟩:=aa;have aX:=bH aX;obtain rfl:=cH ar;obtain rfl:=cH hw;obtain rfl:=cH aH;refine⟨bb,?_⟩;refine bn (b:=bif((λx=>aE+x) 0).beq aE&&(((λx=>aE+x) ((λx=>x+1) 0)).beq (aE+1)&&decide (es.length+a.length<=100000000))then bif((λx=>aE+x) 0).beq aE&&(((λx=>aE+x) ((λx=>x+1) 0)).beq (aE+1)&&decide ((kV es a).length<=900000000))then k (.tup []) [some (.box false [.ptr 1125899906842625 0]),some (.box false [.own 2251799813685248]),none] [.arr false (.int .u8) 5 (gy (kV es a) n) none]else none else none) ?_;exact aT (a' (aV (b9 _) (aV (b9 _) (aS al)))) (aT (a' (aV (b9 _) (aV (b9 _) (aS (by rw[sM];omega))))) ai)
 .cases h
def AM:List AV->List Row->a6 hf
 |[.agg [.str a,.str b],.ptr v 0],[.box false [.ptr w 0],.box false [.own q],.arr false (.int .u8) 5 es none]=>.bt (Nat.beq v aE&&(Nat.beq w (aE+1)&&(Nat.beq q (aE+2)&&decide (es.length+a.length+b.length<=90000000)))) (.leaf (.tup [],[some (.box false [.ptr (aE+1) 0]),some (.box false [.own bY]),none],[.arr false fv 5 (kV (kV es a) b) none]))
 |_,_=>.no
def asg:fH prog 180 (cz AM)/\hA (cz AM):=by
 refine⟨AE (K:=[]) (bs:=[]) (H:=[]) acX Tryz.func180 aG (λb ag=>by simp at ag) λaj aA rows k r h=>?_,kQ AM⟩;change(AM aA rows).run _=some r at h;unfold AM at h;split at h
 .rename_i a b v w q es;obtain⟨aa,ai⟩:=bz h;simp only[ba]at aa;obtain⟨ar,hw,aH,aX⟩:=aa;have aX:=bH aX;obtain rfl:=cH ar;obtain rfl:=cH hw;obtain rfl:=cH aH;refine⟨bb,?_⟩;refine bn (b:=bif((λx=>aE+x) 0).beq aE&&(((λx=>aE+x) ((λx=>x+1) 0)).beq (aE+1)&&decide (es.length+a.length<=100000000))then bif((λx=>aE+x) 0).beq aE&&(((λx=>aE+x) ((λx=>x+1) 0)).beq (aE+1)&&decide ((kV es a).length+b.length<=100000000))then k (.tup []) [some (.box false [.ptr 1125899906842625 0]),some (.box false [.own 2251799813685248]),none] [.arr false (.int .u8) 5 (kV (kV es a) b) none]else none else none) ?_;exact aT (a' (aV (b9 _) (aV (b9 _) (aS al)))) (aT (a' (aV (b9 _) (aV (b9 _) (aS (by rw[sM];omega))))) ai)
 .cases h
noncomputable def acY:Env:={pure:=[],opens:=[(150,cz qM),(178,cz AL)],D1:=true}
def acZ:aM prog acY:=aM.flags (aq:={pure:=[],opens:=[(150,cz qM),(178,cz AL)]}) (aM.iS (aM.iS bV asf) C3)
def u2(r:AV):Bool:=decide ((bm r).length<=1000)
def aaU(es:List AV)(r:AV):(rG es r).length=es.length+16+(bm r).length:=by unfold rG;rw[qb,sM];omega
def aaT{r:AV}(h:u2 r=true):(bm r).length<=1000:=bH h
noncomputable def ac0:Code:=((Tryz.f177.body.map c7).getD []).headD .skip
def ac1:List AV->List (Option Row)->a6 cy
 |[.ptr p 0,.fn 178 [.ptr v 0],.ab (.agg [.str,.int .i64]) an,.int .i64 n,.int .i64 i],[some (.box false [.own q]),some (.box false [.ptr w 0]),some (.arr false (.int .u8) 5 es none)]=>.bt (bl n i an.length&&((Nat.beq p aE&&(Nat.beq v (aE+2)&&(Nat.beq q 9998&&Nat.beq w aE)))&&(decide (an.length<=1000/\es.length+(an.length-i.toNat)*30000<=80000000)&&an.all u2))) (.leaf (.exit 0,[.ptr aE 0,.fn 178 [.ptr (aE+2) 0],.ab (.agg [.str,.int .i64]) an,.int .i64 n,.int .i64 an.length],[some (.box false [.own 9998]),some (.box false [.ptr aE 0]),some (.arr false fv 5 ((an.drop i.toNat).foldl rG es) none)]))
 |_,_=>.no
def Lp:Ev.Loop:=⟨{len:=22,dr:=[0,2,12,13,14],rows:=[aE,aE+2,9998],cells:=[(aE,0,9998,5)]},dP ac1⟩
def ash(vs:List AV)(_:List (Option Row)):Nat:=match vs with
 |[_,_,_,.int _ n,.int _ i]=>(n-i).toNat
 |_=>0
def asi:dj prog acY [(2,Lp)] ac0 Lp:=by
 refine ed acZ.dX rfl (ch.nil aG) ash (λaj vs rs k r h=>?_);unfold ac1 at h;split at h
 .rename_i p v an n i q w es;obtain⟨aa,ai⟩:=bz h;simp only[ba]at aa;obtain⟨aa,⟨au,ar,aH,hw⟩,aX,cn⟩:=aa;obtain⟨d1,d2⟩:=bH aX;obtain rfl:=cH au;obtain rfl:=cH ar;obtain rfl:=cH aH;obtain rfl:=cH hw;obtain⟨rfl,cu,j,rfl,aP⟩:=eA aa;rw[bK]at ai d2;refine bn (b:=have av:=(an.length:Int);have aF:=(IntKind.i64.wrap ((j:Int)+(1:Int)));have aI:=(Row.box false [.ptr 1125899906842624 0]);have aO:=[AV.ptr 1125899906842626 0];have aZ:=(Row.box false [.own 9998]);have bd:=(an.getD j .J);have az:=(gy (kV es (bm bd)) (iw bd));bif decide ((j:Int)<av)then bif inb (j:Int) an.length then bif((λx=>aE+x) 0).beq aE&&(((λx=>aE+x) ((λx=>x+1) 0)).beq (aE+1)&&(((λx=>aE+x) ((λx=>x+1) ((λx=>x+1) 0))).beq (aE+2)&&decide (es.length+(bm bd).length<=90000000)))then bif decide ((av-IntKind.i64.wrap ((j:Int)+(1:Int))).toNat<(av-(j:Int)).toNat)then bif bl av aF an.length&&(aE.beq aE&&((aE+2).beq (aE+2)&&((9998:Nat).beq 9998&&aE.beq aE))&&(decide (an.length<=1000/\az.length+(an.length-aF.toNat)*30000<=80000000)&&an.all u2))then k (.exit 0) [.ptr 1125899906842624 0,.fn 178 aO,.ab (.agg [.str,.int .i64]) an,.I av,.I av] [some aZ,some aI,some (.arr false (.int .u8) 5 (List.foldl rG az (List.drop aF.toNat an)) none)]else none else none else none else none else k (.exit 0) [.ptr 1125899906842624 0,.fn 178 aO,.ab (.agg [.str,.int .i64]) an,.I av,.I (j:Int)] [some aZ,some aI,some (.arr false (.int .u8) 5 es none)]) ?_;conv=>zeta
  rw[<-ai];by_cases aL:j<an.length
  .obtain⟨aU,bc,bw,bQ,bN⟩:=ew aL cu;have aw:u2 (an.getD j .J)=true:=jg cn aL;have ak:=aaT aw;have eD:=aaU es (an.getD j .J);have hm:(an.length-j)*30000=(an.length-(j+1))*30000+30000:=al;rw[tP _ _ _ _ aL];refine aT (a' aU) (aT (a' bc) (aT (a' (aV (b9 _) (aV (b9 _) (aV (b9 _) (aS al))))) ?_));rw[bw];refine aT (a' bN) (aT (a' (aV bQ (aV (aV (b9 _) (aV (b9 _) (aV (b9 _) (b9 _)))) (aV (aS ⟨d1,?_⟩) cn)))) ?_)
   .show(rG es (an.getD j .J)).length+(an.length-((j+1:Nat):Int).toNat)*30000<=80000000;rw[bK,eD];omega
   .rfl
  .obtain rfl:j=an.length:=al;exact oQ
 .cases h
def Aw:List AV->List Row->a6 hf
 |[.ptr p 0,.ab (.agg [.str,.int .i64]) an,.fn 178 [.ptr v 0]],[.box false [.own q],.arr false (.int .u8) 5 es none,.box false [.ptr w 0]]=>.bt (Nat.beq p aE&&(Nat.beq v (aE+2)&&(Nat.beq q (aE+1)&&(Nat.beq w aE&&(decide (an.length<=1000/\es.length<=20000000)&&an.all u2))))) (.leaf (.tup [],[some (.box false [.own bY]),none,some (.box false [.ptr aE 0])],[.arr false fv 5 (an.foldl rG (gy es an.length)) none]))
 |_,_=>.no
def aqb:fH prog 177 (cz Aw)/\hA (cz Aw):=by
 refine⟨AE (K:=[(2,Lp)]) (bs:=[ac0]) (H:=[]) acZ Tryz.func177 aG (λb ag=>?_) λaj aA rows k r h=>?_,kQ Aw⟩
 .simp only[gv,mh,mi]at ag;subst ag;exact⟨Lp,aG,asi⟩
 change(Aw aA rows).run _=some r at h;unfold Aw at h;split at h
 .rename_i p an v q es w;obtain⟨aa,ai⟩:=bz h;simp only[ba]at aa;obtain⟨au,ar,aH,hw,aX,cn⟩:=aa;obtain⟨d1,d2⟩:=bH aX;obtain rfl:=cH au;obtain rfl:=cH ar;obtain rfl:=cH aH;obtain rfl:=cH hw;refine⟨bb,?_⟩;refine bn (b:=bif((λx=>aE+x) 0).beq aE&&(((λx=>aE+x) ((λx=>x+1) 0)).beq (aE+1)&&decide (es.length<=900000000))then bif bl (an.length:Int) (0:Int) an.length&&(aE.beq aE&&((aE+2).beq (aE+2)&&((9998:Nat).beq 9998&&aE.beq aE))&&(decide (an.length<=1000/\(gy es (an.length:Int)).length+(an.length-Int.toNat (0:Int))*30000<=80000000)&&an.all u2))then k (.tup []) [some (.box false [.own 2251799813685248]),none,some (.box false [.ptr 1125899906842624 0])] [.arr false (.int .u8) 5 (List.foldl rG (gy es (an.length:Int)) (List.drop 0 an)) none]else none else none) ?_;refine aT (a' (aV (b9 _) (aV (b9 _) (aS al)))) (aT (a' (aV (e1 (aS al)) (aV (aV (b9 _) (aV (b9 _) (aV (b9 _) (b9 _)))) (aV (aS ⟨d1,?_⟩) cn)))) ?_)
  .exact Tu
  .exact ai
 .cases h
noncomputable def ac2:Env:={pure:=[],opens:=[(150,cz qM),(180,cz AM)],D1:=true}
def ac3:aM Tryz.prog ac2:=aM.flags (aq:={pure:=[],opens:=[(150,cz qM),(180,cz AM)]}) (aM.iS (aM.iS bV asg) C3)
def wz(r:AV):Bool:=decide ((eS r).length<=4000/\(fa r).length<=4000)
def tS(es:List AV)(r:AV):List AV:=kV (kV es (eS r)) (fa r)
def aaW(es:List AV)(r:AV):(tS es r).length=es.length+16+(eS r).length+(fa r).length:=by unfold tS;rw[sM,sM];omega
def aaV{r:AV}(h:wz r=true):(eS r).length<=4000/\(fa r).length<=4000:=bH h
noncomputable def ac4:Code:=((Tryz.f179.body.map c7).getD []).headD .skip
def ac5:List AV->List (Option Row)->a6 cy
 |[.ptr p 0,.fn 180 [.ptr v 0],.ab (.agg [.str,.str]) an,.int .i64 n,.int .i64 i],[some (.box false [.own q]),some (.box false [.ptr w 0]),some (.arr false (.int .u8) 5 es none)]=>.bt (bl n i an.length&&((Nat.beq p aE&&(Nat.beq v (aE+2)&&(Nat.beq q 9998&&Nat.beq w aE)))&&(decide (an.length<=1000/\es.length+(an.length-i.toNat)*30000<=80000000)&&an.all wz))) (.leaf (.exit 0,[.ptr aE 0,.fn 180 [.ptr (aE+2) 0],.ab (.agg [.str,.str]) an,.int .i64 n,.int .i64 an.length],[some (.box false [.own 9998]),some (.box false [.ptr aE 0]),some (.arr false fv 5 ((an.drop i.toNat).foldl tS es) none)]))
 |_,_=>.no
def Lq:Ev.Loop:=⟨{len:=22,dr:=[0,2,12,13,14],rows:=[aE,aE+2,9998],cells:=[(aE,0,9998,5)]},dP ac5⟩
def asj(vs:List AV)(_:List (Option Row)):Nat:=match vs with
 |[_,_,_,.int _ n,.int _ i]=>(n-i).toNat
 |_=>0
def asl:dj Tryz.prog ac2 [(2,Lq)] ac4 Lq:=by
 refine ed ac3.dX rfl (ch.nil aG) asj (λaj vs rs k r h=>?_);unfold ac5 at h;split at h
 .rename_i p v an n i q w es;obtain⟨aa,ai⟩:=bz h;simp only[ba]at aa;obtain⟨aa,⟨au,ar,aH,hw⟩,aX,cn⟩:=aa;obtain⟨d1,d2⟩:=bH aX;obtain rfl:=cH au;obtain rfl:=cH ar;obtain rfl:=cH aH;obtain rfl:=cH hw;obtain⟨rfl,cu,j,rfl,aP⟩:=eA aa;rw[bK]at ai d2;refine bn (b:=have av:=(an.length:Int);have az:=(an.getD j .J);have aF:=(IntKind.i64.wrap ((j:Int)+(1:Int)));have aI:=(Row.box false [.ptr 1125899906842624 0]);have aO:=[AV.ptr 1125899906842626 0];have aZ:=(kV (kV es (eS az)) (fa az));have bd:=(Row.box false [.own 9998]);bif decide ((j:Int)<av)then bif inb (j:Int) an.length then bif((λx=>aE+x) 0).beq aE&&(((λx=>aE+x) ((λx=>x+1) 0)).beq (aE+1)&&(((λx=>aE+x) ((λx=>x+1) ((λx=>x+1) 0))).beq (aE+2)&&decide (es.length+(eS az).length+(fa az).length<=90000000)))then bif decide ((av-IntKind.i64.wrap ((j:Int)+(1:Int))).toNat<(av-(j:Int)).toNat)then bif bl av aF an.length&&(aE.beq aE&&((aE+2).beq (aE+2)&&((9998:Nat).beq 9998&&aE.beq aE))&&(decide (an.length<=1000/\aZ.length+(an.length-aF.toNat)*30000<=80000000)&&an.all wz))then k (.exit 0) [.ptr 1125899906842624 0,.fn 180 aO,.ab (.agg [.str,.str]) an,.I av,.I av] [some bd,some aI,some (.arr false (.int .u8) 5 (List.foldl tS aZ (List.drop aF.toNat an)) none)]else none else none else none else none else k (.exit 0) [.ptr 1125899906842624 0,.fn 180 aO,.ab (.agg [.str,.str]) an,.I av,.I (j:Int)] [some bd,some aI,some (.arr false (.int .u8) 5 es none)]) ?_;conv=>zeta
  rw[<-ai];by_cases aL:j<an.length
  .obtain⟨aU,bc,bw,bQ,bN⟩:=ew aL cu;have aw:wz (an.getD j .J)=true:=jg cn aL;have ak:=aaV aw;have eD:=aaW es (an.getD j .J);have hm:(an.length-j)*30000=(an.length-(j+1))*30000+30000:=al;rw[tP _ _ _ _ aL];refine aT (a' aU) (aT (a' bc) (aT (a' (aV (b9 _) (aV (b9 _) (aV (b9 _) (aS al))))) ?_));rw[bw];refine aT (a' bN) (aT (a' (aV bQ (aV (aV (b9 _) (aV (b9 _) (aV (b9 _) (b9 _)))) (aV (aS ⟨d1,?_⟩) cn)))) ?_)
   .show(tS es (an.getD j .J)).length+(an.length-((j+1:Nat):Int).toNat)*30000<=80000000;rw[bK,eD];omega
   .rfl
  .obtain rfl:j=an.length:=al;exact oQ
 .cases h
def Ax:List AV->List Row->a6 hf
 |[.ptr p 0,.ab (.agg [.str,.str]) an,.fn 180 [.ptr v 0]],[.box false [.own q],.arr false (.int .u8) 5 es none,.box false [.ptr w 0]]=>.bt (Nat.beq p aE&&(Nat.beq v (aE+2)&&(Nat.beq q (aE+1)&&(Nat.beq w aE&&(decide (an.length<=1000/\es.length<=20000000)&&an.all wz))))) (.leaf (.tup [],[some (.box false [.own bY]),none,some (.box false [.ptr aE 0])],[.arr false fv 5 (an.foldl tS (gy es an.length)) none]))
 |_,_=>.no
def aqa:fH Tryz.prog 179 (cz Ax)/\hA (cz Ax):=by
 refine⟨AE (K:=[(2,Lq)]) (bs:=[ac4]) (H:=[]) ac3 Tryz.func179 aG (λb ag=>?_) λaj aA rows k r h=>?_,kQ Ax⟩
 .simp only[gv,mh,mi]at ag;subst ag;exact⟨Lq,aG,asl⟩
 change(Ax aA rows).run _=some r at h;unfold Ax at h;split at h
 .rename_i p an v q es w;obtain⟨aa,ai⟩:=bz h;simp only[ba]at aa;obtain⟨au,ar,aH,hw,aX,cn⟩:=aa;obtain⟨d1,d2⟩:=bH aX;obtain rfl:=cH au;obtain rfl:=cH ar;obtain rfl:=cH aH;obtain rfl:=cH hw;refine⟨bb,?_⟩;refine bn (b:=bif((λx=>aE+x) 0).beq aE&&(((λx=>aE+x) ((λx=>x+1) 0)).beq (aE+1)&&decide (es.length<=900000000))then bif bl (an.length:Int) (0:Int) an.length&&(aE.beq aE&&((aE+2).beq (aE+2)&&((9998:Nat).beq 9998&&aE.beq aE))&&(decide (an.length<=1000/\(gy es (an.length:Int)).length+(an.length-Int.toNat (0:Int))*30000<=80000000)&&an.all wz))then k (.tup []) [some (.box false [.own 2251799813685248]),none,some (.box false [.ptr 1125899906842624 0])] [.arr false (.int .u8) 5 (List.foldl tS (gy es (an.length:Int)) (List.drop 0 an)) none]else none else none) ?_;refine aT (a' (aV (b9 _) (aV (b9 _) (aS al)))) (aT (a' (aV (e1 (aS al)) (aV (aV (b9 _) (aV (b9 _) (aV (b9 _) (b9 _)))) (aV (aS ⟨d1,?_⟩) cn)))) ?_)
  .exact Tu
  .exact ai
 .cases h
def t'(l:AV):List AV:=iA (bm l)++([.int .u8 13,.int .u8 10]:List AV)
def rJ(f:AV):List AV:=(kh (eS f) (fa f)).flatMap t'
noncomputable def RI:Env:={pure:=[(64,aK FR)]}
def g23:aM prog RI:=aM.br bV aaA
noncomputable def RJ:Code:=((Tryz.f23.body.map c7).getD []).headD .skip
noncomputable def RL:Code:=(c7 RJ).headD .skip
def Gi(l:AV):Bool:=decide ((bm l).length<=10000)
def ac6:List AV->List (Option Row)->a6 cy
 |[.ptr 0 0,.own q,.int .i64 i,.ab .str ls,.int .i64 k],[some (.box false [.ab (.agg [.str,.str]) aC,.ab (.int .u8) bs]),some (.arr false (.int .u8) 5 out none)]=>.bt (Nat.beq q 9990&&(bl ls.length k ls.length&&(decide (ls.length<=10000/\out.length+(ls.length-k.toNat)*10002<=900000000)&&ls.all Gi)))
  (.leaf (.exit 2,[.ptr 0 0,.own 9990,.int .i64 i,.ab .str ls,.int .i64 ls.length],[some (.box false [.ab fb aC,.ab fv bs]),some (.arr false fv 5 (out++(ls.drop k.toNat).flatMap t') none)]))
 |_,_=>.no
def Gj:Ev.Loop:=⟨{len:=49,dr:=[1,3,4,5,6],rows:=[0,9990],homes:=[(3,9990,5)]},dP ac6⟩
def asm(vs:List AV)(_:List (Option Row)):Nat:=match vs with
 |[_,_,_,.ab _ ls,.int _ k]=>((ls.length:Int)-k).toNat
 |_=>0
def ac7(K:List (Nat×Ev.Loop)):dj prog RI K RL Gj:=by
 refine ed g23.dX rfl (ch.nil aG) asm (λaj vs rs k r h=>?_);unfold ac6 at h;split at h
 .rename_i q i ls cl aC bs out;obtain⟨aa,ai⟩:=bz h;simp only[ba]at aa;obtain⟨aH,aa,aX,cn⟩:=aa;obtain⟨d1,d2⟩:=bH aX;obtain rfl:=cH aH;obtain⟨_,an,j,rfl,aP⟩:=eA aa;rw[bK]at ai d2;refine bn (b:=have av:=[AV.int .u8 13,.int .u8 10];have aF:=(bm (ls.getD j .J));have aI:=(IntKind.i64.wrap ((j:Int)+(1:Int)));have aO:=(ls.length:Int);have aZ:=(Sh.int .u8);have az:=(Row.box false [AV.ab (Sh.agg [Sh.str,Sh.str]) aC,AV.ab aZ bs]);have bd:=(prog.bytesOf 5);bif decide ((j:Int)<aO)then bif inb (j:Int) ls.length then bif roomB (out.length+(iA aF).length) bd then bif roomB ((out++iA aF).length+av.length) bd then bif decide ((aO-IntKind.i64.wrap ((j:Int)+(1:Int))).toNat<(aO-(j:Int)).toNat)then bif(9990:Nat).beq 9990&&(bl aO aI ls.length&&(decide (ls.length<=10000/\(out++iA aF++av).length+(ls.length-aI.toNat)*10002<=900000000)&&ls.all Gi))then k (.exit 2) [.ptr 0 0,.own 9990,.I i,.ab .str ls,.I aO] [some az,some (.arr false aZ 5 (out++iA aF++av++List.flatMap t' (List.drop aI.toNat ls)) none)]else none else none else none else none else none else k (.exit 2) [.ptr 0 0,.own 9990,.I i,.ab .str ls,.I (j:Int)] [some az,some (.arr false aZ 5 out none)]) ?_;conv=>zeta
  rw[<-ai];by_cases aL:j<ls.length
  .obtain⟨aU,bc,bw,bQ,bN⟩:=ew aL an;have aw:=bH (jg cn aL:Gi (ls.getD j .J)=true);have hm:(ls.length-j)*10002=(ls.length-(j+1))*10002+10002:=al;have b1:=xD (bm (ls.getD j .J));have r1:roomB (out.length+(iA (bm (ls.getD j .J))).length) (prog.bytesOf 5)=true:=Df al;have cQ:roomB ((out++iA (bm (ls.getD j .J))).length+([.int .u8 13,.int .u8 10]:List AV).length) (prog.bytesOf 5)=true:=Df SF;have g1:decide (ls.length<=10000/\(out++iA (bm (ls.getD j .J))++([.int .u8 13,.int .u8 10]:List AV)).length+(ls.length-(j+1))*10002<=900000000)=true:=aS ⟨d1,by rw[fu,fu];simp only[e5,gw];omega⟩;have Aq:out++(ls.drop j).flatMap t'=out++iA (bm (ls.getD j .J))++([.int .u8 13,.int .u8 10]:List AV)++(ls.drop (j+1)).flatMap t':=by rw[rP aL,mg,List.getD,fC aL];unfold t';simp only[nm,Dy]
   rw[Aq];simp only[aU,bc,bw,bQ,bN,r1,cQ,g1,cn,b9,b4,bK,jz];rfl
  .obtain rfl:j=ls.length:=al;exact Tk
 .cases h
def ac8{β:Type}(f:AV->List β)(c:Nat):∀ls:List AV,ls.all (λl=>decide ((f l).length<=c))=true->(ls.flatMap f).length<=ls.length*c
 |[],_=>bb
 |l::ls,h=>by simp only[lq,ba,fD]at h;have:=ac8 f c ls h.2;have af:=h.1;simp only[mg,fu,e5,kB,Bg];omega
def ac9:∀(l:List Nat)(x:Nat),x∈l->x<=l.sum
 |[],_,h=>cM
 |a::l,x,h=>by
  rw[List.sum_cons];rcases gv.1 h with rfl|h
  .omega
  .have:=ac9 l x h;omega
def asn(a b:List UInt8)(h:a.length+b.length<=8000):(kh a b).all Gi=true:=by
 have ao:=(Ga _ (pt a b) ((a.length:Int)+2) (dc _)).1;have ay:(pt a b).length=a.length+2+b.length:=GO;rw[ec];intro x ak;unfold kh at ak;rcases gD.1 ak with ak|ak
 .obtain⟨l,tk,rfl⟩:=uj.1 ak;have a1:=ac9 _ _ (List.mem_map_of_mem (f:=List.length) tk);refine aS ?_;show l.length<=10000;omega
 .rw[oM]at ak;subst ak;refine aS ?_;show(kz (pt a b) ((a.length:Int)+2)).2.1.length<=10000;omega
def ada:∀ls:List (List UInt8),((ls.map AV.str).flatMap t').length=(ls.map List.length).sum+2*ls.length
 |[]=>rfl
 |l::ls=>by
  have h:=ada ls;have af:(t' (.str l)).length=l.length+2:=by unfold t';rw[fu,xD];rfl
  simp only[iZ,mg,fu,List.sum_cons,e5,af,h];omega
def sL(f:AV):Bool:=decide ((eS f).length<=4000/\(fa f).length<=4000)
def adb{f:AV}(h:sL f=true):(rJ f).length<=30000:=by obtain⟨af,ao⟩:=bH h;obtain⟨a1,ca⟩:=Ga _ (pt (eS f) (fa f)) (((eS f).length:Int)+2) (dc _);have ay:(pt (eS f) (fa f)).length=(eS f).length+2+(fa f).length:=GO;unfold rJ kh;have dA:=ada ((kz (pt (eS f) (fa f)) (((eS f).length:Int)+2)).1++[(kz (pt (eS f) (fa f)) (((eS f).length:Int)+2)).2.1]);rw[yK]at dA;simp only[iZ,Dw,yK,List.sum_append,List.sum_cons,List.sum_nil,fu,qR]at dA;rw[dA];omega
def ade:List AV->List (Option Row)->a6 cy
 |[.ptr 0 0,.own q,.int .i64 i],[some (.box false [.ab (.agg [.str,.str]) aC,.ab (.int .u8) bs]),some (.arr false (.int .u8) 5 out none)]=>.bt (Nat.beq q 9990&&(bl aC.length i aC.length&&(decide (aC.length<=60/\out.length+(aC.length-i.toNat)*100000<=7000000)&&aC.all sL)))
  (.leaf (.exit 0,[.ptr 0 0,.own 9990,.int .i64 aC.length],[some (.box false [.ab fb aC,.ab fv bs]),some (.arr false fv 5 (out++(aC.drop i.toNat).flatMap rJ) none)]))
 |_,_=>.no
def Lr:Ev.Loop:=⟨{len:=49,dr:=[1,3,4],rows:=[0,9990],homes:=[(3,9990,5)]},dP ade⟩
def aso(vs:List AV)(rs:List (Option Row)):Nat:=match vs,rs with
 |[_,_,.int _ i],[some (.box _ [.ab _ aC,_]),_]=>((aC.length:Int)-i).toNat
 |_,_=>0
def asp:dj prog RI [(3,Lr),(7,Gj)] RJ Lr:=by
 refine ed g23.dX rfl (ch.all (bs:=[RL]) aG (λb ag=>?_)) aso (λaj vs rs k r h=>?_)
 .simp only[gv,mh,mi]at ag;subst ag;exact⟨Gj,aG,ac7 _⟩
 unfold ade at h;split at h
 .rename_i q i aC bs out;obtain⟨aa,ai⟩:=bz h;simp only[ba]at aa;obtain⟨aH,aa,aX,cn⟩:=aa;obtain⟨d1,d2⟩:=bH aX;obtain rfl:=cH aH;obtain⟨_,an,j,rfl,aP⟩:=eA aa;rw[bK]at ai d2;refine bn (b:=have aI:=(aC.length:Int);have aO:=(aC.getD j .J);have av:=(kh (eS aO) (fa aO));have aZ:=(Sh.int .u8);have az:=(Row.box false [AV.ab (Sh.agg [Sh.str,Sh.str]) aC,AV.ab aZ bs]);have bd:=(j:Int);have aF:=(IntKind.i64.wrap (bd+(1:Int)));bif decide (bd<aI)then bif inb bd aC.length then bif inb bd aC.length then bif decide ((eS aO).length+(fa aO).length<=50000)then bif Nat.beq 9990 9990&&(bl (av.length:Int) (0:Int) av.length&&(decide (av.length<=10000/\out.length+(av.length-Int.toNat (0:Int))*10002<=900000000)&&av.all Gi))then bif decide ((aI-IntKind.i64.wrap (bd+(1:Int))).toNat<(aI-bd).toNat)then bif Nat.beq 9990 9990&&(bl aI aF aC.length&&(decide (aC.length<=60/\(out++List.flatMap t' (List.drop 0 av)).length+(aC.length-aF.toNat)*100000<=7000000)&&aC.all sL))then k (.exit 0) [.ptr 0 0,.own 9990,.I aI] [some az,some (.arr false aZ 5 (out++List.flatMap t' (List.drop 0 av)++List.flatMap rJ (List.drop aF.toNat aC)) none)]else none else none else none else none else none else none else k (.exit 0) [.ptr 0 0,.own 9990,.I bd] [some az,some (.arr false aZ 5 out none)]) ?_;conv=>zeta
  rw[<-ai];by_cases aL:j<aC.length
  .obtain⟨aU,bc,bw,bQ,bN⟩:=ew aL an;have aw:sL (aC.getD j .J)=true:=jg cn aL;obtain⟨b0,bS⟩:=bH aw;have ag:=adb aw;have ay:=aaI (eS (aC.getD j .J)) (fa (aC.getD j .J));have hm:(aC.length-j)*100000=(aC.length-(j+1))*100000+100000:=al;have E0:out.length<=7000000:=al;have aH:∀q:Nat,q<=8003->q*10002<=80046006:=λq h=>lp (sW 10002 h) (bH rfl);have g3:(decide ((kh (eS (aC.getD j .J)) (fa (aC.getD j .J))).length<=10000/\out.length+((kh (eS (aC.getD j .J)) (fa (aC.getD j .J))).length-Int.toNat 0)*10002<=900000000))=true:=by have tk:(kh (eS (aC.getD j .J)) (fa (aC.getD j .J))).length<=8003:=al;have a7:Int.toNat 0=0:=rfl;rw[a7,Dz];exact aS ⟨lp tk (bH rfl),lp (Nat.add_le_add E0 (aH _ tk)) (bH rfl)⟩
   have Aq:out++(aC.drop j).flatMap rJ=out++rJ (aC.getD j .J)++(aC.drop (j+1)).flatMap rJ:=by rw[rP aL,mg,List.getD,fC aL,nm];rfl
   rw[Aq];refine aT (a' aU) (aT (a' bc) (aT (a' bc) (aT (a' (aS al)) (aT (a' (aV (b9 _) (aV (e1 (aS al)) (aV g3 (asn _ _ al))))) ?_))));rw[bw];refine aT (a' bN) (aT (a' (aV (b9 _) (aV bQ (aV (aS ⟨d1,?_⟩) cn)))) ?_)
   .show(out++rJ (aC.getD j .J)).length+(aC.length-((j+1:Nat):Int).toNat)*100000<=7000000;rw[fu,bK];omega
   .rfl
  .obtain rfl:j=aC.length:=al;exact Tk
 .cases h
def yd(aC bs:List AV):List AV:=aC.flatMap rJ++([.int .u8 13,.int .u8 10]:List AV)++bs
def FV:List AV->a6 AV
 |[.agg [.ab (.agg [.str,.str]) aC,.ab (.int .u8) bs]]=>.bt (decide (aC.length<=60/\bs.length<=12000)&&aC.all sL) (.leaf (.ab fv (yd aC bs)))
 |_=>.no
def aaJ:SumOK prog 23 (aK FV)/\b5 (aK FV):=by
 refine xZ (K:=[(3,Lr),(7,Gj)]) g23 Tryz.func23 (bs:=[RJ,RL]) aG (λb ag=>?_) λaj aA k r h=>?_
 .simp only[gv,mh,mi]at ag;rcases ag with rfl|rfl
  .exact⟨Lr,aG,asp⟩
  .exact⟨Gj,aG,ac7 _⟩
 unfold FV at h;split at h
 .rename_i aC bs;obtain⟨aa,ai⟩:=bz h;simp only[ba]at aa;obtain⟨aX,cn⟩:=aa;obtain⟨d1,d2⟩:=bH aX;refine bn (b:=have av:=[AV.int .u8 13,.int .u8 10];have az:=(List.drop 0 aC);have aF:=(prog.bytesOf 5);bif(9990:Nat).beq 9990&&(bl (aC.length:Int) (0:Int) aC.length&&(decide (aC.length<=60/\([]:List AV).length+(aC.length-Int.toNat (0:Int))*100000<=7000000)&&aC.all sL))then bif roomB (([]++List.flatMap rJ az).length+av.length) aF then bif roomB (([]++List.flatMap rJ az++av).length+bs.length) aF then k (.ab (.int .u8) ([]++List.flatMap rJ az++av++bs))else none else none else none) ?_;conv=>zeta
  have af:=ac8 rJ 30000 aC (ec.2 λx ak=>aS (adb (ec.1 cn x ak)));have ao:aC.length*30000<=60*30000:=sW _ d1;rw[pj,DE];refine aT (a' (aV (b9 _) (aV (e1 (aS al)) (aV (aS ⟨d1,?_⟩) cn)))) (aT (a' (Df ?_)) (aT (a' (Df ?_)) ai))
  .have a7:Int.toNat 0=0:=rfl;rw[a7,gw];omega
  .simp only[e5,gw];omega
  .rw[fu];simp only[e5,gw];omega
 .cases h
end Go.Proofs.YtijdnecnjenleaaGreatDoor
