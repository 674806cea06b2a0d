/-
  The machine's operations, first part: the memory; operations that do not change it.
-/
import Derived.Test.YtijdnecnjenleaaGreatDoorKqD
set_option linter.all false
namespace Go.Proofs.YtijdnecnjenleaaGreatDoor
open IntKind
open Go.Ev
open Tryz
def Gn(w:AV):AV:=.agg [.str (bm w),.int .i64 (iw w),.int .i64 (dC w),.bool false]
def adM(r:Int)(w:AV):AV:=.agg [.str (bm w),.int .i64 (iw w),.int .i64 r,.bool (gl w)]
abbrev yw:Sh:=.agg [.int .i64,.int .i64,.int .i64]
def ni(dT:Bool)(x:Int)(k r:Int)(st:List AV×List AV):List AV×List AV:=
 bif hg r&&dT then(st.1.set k.toNat (Gn (st.1.getD k.toNat .J)),st.2)else
  ((st.1.set k.toNat (Gn (st.1.getD k.toNat .J))).set k.toNat (adM (bif hg r then 3 else r) (Gn (st.1.getD k.toNat .J))),st.2++[.agg [.int .i64 x,.int .i64 k,.int .i64 (bif hg r then 3 else r)]])
def hZ(dT:Bool)(x:Int):List AV->List AV->List AV×List AV->List AV×List AV
 |t::ae,r::rs,st=>hZ dT x ae rs (ni dT x (aW t) (aW r) st)
 |_,_,st=>st
def aur(dT:Bool)(x:Int){ae rs:List AV}{j:Nat}(h:j<ae.length)(aD:rs.length=ae.length)(st:List AV×List AV):hZ dT x (ae.drop j) (rs.drop j) st=hZ dT x (ae.drop (j+1)) (rs.drop (j+1)) (ni dT x (aW (ae.getD j .J)) (aW (rs.getD j .J)) st):=by have ao:j<rs.length:=al;rw[rP h,rP ao,List.getD,fC h,List.getD,fC ao];rfl
def aus(dT:Bool)(x:Int)(ae rs:List AV)(st:List AV×List AV):hZ dT x (ae.drop ae.length) rs st=st:=by rw[vm];cases rs<;>rfl
def adL(dT:Bool)(x k r:Int)(st:List AV×List AV):(ni dT x k r st).1.length=st.1.length:=by
 unfold ni;cases hg r&&dT
 .simp only[cU,oJ]
 .simp only[b4,oJ]
def aep(dT:Bool)(x:Int):∀(ae rs:List AV)(st:List AV×List AV),(hZ dT x ae rs st).1.length=st.1.length
 |t::ae,r::rs,st=>(aep dT x ae rs _).trans (adL dT x _ _ st)
 |[],_,_=>rfl
 |_::_,[],_=>rfl
noncomputable def aeq(f:Nat):Env:={pure:=[(27,aK rv),(28,aK uY),(29,aK pQ),(39,aK o9),(40,aK Ap),(42,aK F0),(44,aK C6),(46,aK CN)],opens:=[(41,cz (x' f)),(45,cz C7),(47,cz F1)],hole:=true}
def g11(f:Nat):aM prog (aeq f):=aM.flags (aq:={pure:=[(27,aK rv),(28,aK uY),(29,aK pQ),(39,aK o9),(40,aK Ap),(42,aK F0),(44,aK C6),(46,aK CN)],opens:=[(41,cz (x' f)),(45,cz C7),(47,cz F1)]}) (aM.br (aM.br (aM.br (aM.br (aM.br (aM.br (aM.br (aM.br (aM.iS (aM.iS (aM.iS bV aqG) aqJ) (ZL f)) Zr) aa5) aqt) ZU) rz) ry) CL) uU)
noncomputable def aer:Code:=((Tryz.f11.body.map c7).getD []).headD .skip
noncomputable def aes(rs ae:List AV)(n0:Int)(h4 rD:Nat)(dT:Bool)(cO:Nat)(n i:Int)(q:Nat)(nx x:Int)(d:List UInt8)(fs:List AV)(s:Sh)(pre:List AV)(fL:Int)(f:List UInt8)(kG:List AV)(d0:List UInt8)(aC bs:List AV)(b0 bS n3:Int)(q1:Nat)(post:List AV)(gb e3:Option Row):a6 cy:=match gb,e3 with
 |some (.arr false (.agg [.str,.int .i64,.int .i64,.bool]) 110 ws none),some (.arr false (.agg [.int .i64,.int .i64,.int .i64]) 74 out none)=>.bt (hv (out.length+(ae.length-i.toNat)<=1000000/\rs.length=ae.length/\pre.length+post.length<=1000000)&&((Nat.beq q 4294968065&&(Nat.beq h4 4294968065&&(Nat.beq q1 8589935361&&(Nat.beq cO 9997&&Nat.beq rD pre.length))))&&(bl n i ae.length&&ae.all (sJ ws.length))))
  (.leaf (.exit 1,[.ab gm rs,.ptr 0 0,.ptr 1 0,.ptr 2 0,.ptr 4 0,.int .i64 n0,.eptr 4294968065 pre.length 0,.fn 44 [],.bool dT,.own 9997,.ab gm ae,.int .i64 n,.int .i64 ae.length],[some (.box false [.own 4294968065,.int .i64 nx]),some (.box false [.int .i64 x,.str d,.ab gm fs]),some (.box false [.bf s,.int .i64 0]),some (.box false [.int .i64 0,.int .i64 0]),some (.cj false db 89 pre [.int .i64 fL,.str f,.ab eR kG,.str d0,.ab fb aC,.ab (.int .u8) bs,.int .i64 b0,.int .i64 bS,.int .i64 n3,.own 8589935361] post),some (.arr false fW 110 (hZ dT fL (ae.drop i.toNat) (rs.drop i.toNat) (ws,out)).1 none),some (.arr false yw 74 (hZ dT fL (ae.drop i.toNat) (rs.drop i.toNat) (ws,out)).2 none)]))
 |_,_=>.no
noncomputable def aet(rs ae:List AV)(n0:Int)(h4 rD:Nat)(dT:Bool)(cO:Nat)(n i:Int)(q:Nat)(nx x:Int)(d:List UInt8)(fs:List AV)(s:Sh)(gP gb e3:Option Row):a6 cy:=match gP with
 |some (.cj false (.agg [.int .i64,.str,.slice (.agg [.str,.int .i64]),.str,.slice (.agg [.str,.str]),.slice (.int .u8),.int .i64,.int .i64,.int .i64,.slice (.agg [.str,.int .i64,.int .i64,.bool])]) 89 pre [.int .i64 fL,.str f,.ab (.agg [.str,.int .i64]) kG,.str d0,.ab (.agg [.str,.str]) aC,.ab (.int .u8) bs,.int .i64 b0,.int .i64 bS,.int .i64 n3,.own q1] post)=>aes rs ae n0 h4 rD dT cO n i q nx x d fs s pre fL f kG d0 aC bs b0 bS n3 q1 post gb e3
 |_=>.no
noncomputable def aeu(rs ae:List AV)(n0:Int)(h4 rD:Nat)(dT:Bool)(cO:Nat)(n i:Int)(fL iI h9 hC gP gb e3:Option Row):a6 cy:=match fL,iI,h9,hC with
 |some (.box false [.own q,.int .i64 nx]),some (.box false [.int .i64 x,.str d,.ab (.int .i64) fs]),some (.box false [.bf s,.int .i64 0]),some (.box false [.int .i64 0,.int .i64 0])=>aet rs ae n0 h4 rD dT cO n i q nx x d fs s gP gb e3
 |_,_,_,_=>.no
noncomputable def aev(rs ae:List AV)(n0:Int)(h4 rD:Nat)(dT:Bool)(cO:Nat)(n i:Int)(rows:List (Option Row)):a6 cy:=match rows with
 |[fL,iI,h9,hC,gP,gb,e3]=>aeu rs ae n0 h4 rD dT cO n i fL iI h9 hC gP gb e3
 |_=>.no
noncomputable def aew(vs:List AV)(rows:List (Option Row)):a6 cy:=match vs with
 |[.ab (.int .i64) rs,.ptr 0 0,.ptr 1 0,.ptr 2 0,.ptr 4 0,.int .i64 n0,.eptr h4 rD 0,.fn 44 [],.bool dT,.own cO,.ab (.int .i64) ae,.int .i64 n,.int .i64 i]=>aev rs ae n0 h4 rD dT cO n i rows
 |_=>.no
noncomputable def LF:Ev.Loop:=⟨{len:=136,dr:=[2,4,5,8,10,11,13,14,15,16,75,76,77],rows:=[0,1,2,4,4294968065,8589935361,9997],homes:=[(16,9997,74)]},dP aew⟩
def aut(vs:List AV)(_:List (Option Row)):Nat:=match vs with
 |[_,_,_,_,_,_,_,_,_,_,_,.int _ n,.int _ i]=>(n-i).toNat
 |_=>0
set_option maxRecDepth 100000 in
def auu(f:Nat):dj prog (aeq f) [(20,LF)] aer LF:=by
 refine ed (g11 f).dX rfl (ch.nil aG) aut (λaj vs rs k r h=>?_);unfold aew at h;split at h;rotate_left
 .cases h
 rename_i rs n0 h4 rD dT cO ae n i;unfold aev at h;split at h;rotate_left
 .cases h
 rename_i EP o4 As y3 y4 aaf y6;unfold aeu at h;split at h;rotate_left
 .cases h
 rename_i q nx x d fs s;unfold aet at h;split at h;rotate_left
 .cases h
 rename_i pre fL f kG d0 aC bs b0 bS n3 q1 post;unfold aes at h;split at h
 .rename_i ws out;obtain⟨aa,ai⟩:=u5 h;simp only[ba]at aa;obtain⟨aX,⟨aH,Ru,Dm,Aa,xo⟩,aa,cn⟩:=aa;obtain⟨d1,d2,d3⟩:=wC aX;obtain rfl:=cH aH;obtain rfl:=cH Ru;obtain rfl:=cH Dm;obtain rfl:=cH Aa;obtain rfl:=cH xo;obtain⟨rfl,an,j,rfl,aP⟩:=eA aa;rw[bK]at ai d1;refine bn (b:=have aI:=(aW (ae.getD j .J));have aZ:=(Sh.agg [.str,.int .i64,.int .i64,.bool]);have aF:=(Row.cj false (Sh.agg [Sh.int i64,Sh.str,(Sh.agg [Sh.str,Sh.int i64]).slice,Sh.str,(Sh.agg [Sh.str,Sh.str]).slice,(Sh.int u8).slice,Sh.int i64,Sh.int i64,Sh.int i64,aZ.slice]) (89:Nat) pre [AV.int i64 fL,AV.str f,AV.ab (Sh.agg [Sh.str,Sh.int i64]) kG,AV.str d0,AV.ab (Sh.agg [Sh.str,Sh.str]) aC,AV.ab (Sh.int u8) bs,AV.int i64 b0,AV.int i64 bS,AV.int i64 n3,AV.own 8589935361] post);have dD:=(Row.box false [.I 0,.I 0]);have fM:=(Nat.beq 4294968065 4294968065&&(Nat.beq 8589935361 8589935361&&((9997:Nat).beq 9997&&pre.length.beq pre.length)));have ft:=(Row.box false [.own 4294968065,.I nx]);have fQ:=decide (pre.length=pre.length);have hN:=(Row.box false [.bf s,.I 0]);have gO:=(Sh.agg [.int .i64,.int .i64,.int .i64]);have gu:=[AV.agg [.I fL,.I aI,.I 3]];have gZ:=(ae.length:Int);have ng:=(aW (rs.getD j .J));have gC:=[AV.agg [.I fL,.I aI,.I ng]];have nh:=(Ex.exit 1);have mf:=(ws.getD aI.toNat .J);have bF:=(dU aZ [.str (bm mf),.I (iw mf),.I (dC mf),.bool false]);have av:=(ws.set aI.toNat bF);have bk:=(av.getD aI.toNat .J);have ji:=(dU aZ [.str (bm bk),.I (iw bk),.I ng,.bool (gl bk)]);have kY:=(dU aZ [.str (bm bk),.I (iw bk),.I 3,.bool (gl bk)]);have tZ:=(Sh.int .i64);have aO:=[AV.ab tZ rs,.ptr 0 0,.ptr 1 0,.ptr 2 0,.ptr 4 0,.I n0,.eptr 4294968065 pre.length 0,.fn 44 [],.bool dT,.own 9997,.ab tZ ae,.I gZ,.I gZ];have cJ:=(Row.box false [.I x,.str d,.ab tZ fs]);have wE:=decide (aI.toNat<av.length);have yl:=(prog.bytesOf 74);have sQ:=(j:Int);have bd:=(i64.wrap (sQ+(1:Int)));have cd:=decide ((gZ-i64.wrap (sQ+(1:Int))).toNat<(gZ-sQ).toNat);have pd:=(List.drop bd.toNat ae);have qN:=(List.drop bd.toNat rs);have bI:=(hZ dT fL pd qN (av.set aI.toNat ji,out++gC));have b3:=(hZ dT fL pd qN (av.set aI.toNat kY,out++gu));have kZ:=(hZ dT fL pd qN (ws.set aI.toNat bF,out));have rI:=(ae.length-bd.toNat);have az:=bif hg ng then bif fQ then bif inb aI av.length then bif wE then bif fQ then bif roomB (out.length+gu.length) yl then bif cd then bif hv ((out++gu).length+rI<=1000000/\rs.length=ae.length/\pre.length+post.length<=1000000)&&(Nat.beq 4294968065 4294968065&&fM&&(bl gZ bd ae.length&&ae.all (sJ (av.set aI.toNat kY).length)))then k nh aO [some ft,some cJ,some hN,some dD,some aF,some (.arr false aZ 110 b3.fst none),some (.arr false gO 74 b3.snd none)]else none else none else none else none else none else none else none else bif fQ then bif inb aI av.length then bif wE then bif fQ then bif roomB (out.length+gC.length) yl then bif cd then bif hv ((out++gC).length+rI<=1000000/\rs.length=ae.length/\pre.length+post.length<=1000000)&&(Nat.beq 4294968065 4294968065&&fM&&(bl gZ bd ae.length&&ae.all (sJ (av.set aI.toNat ji).length)))then k nh aO [some ft,some cJ,some hN,some dD,some aF,some (.arr false aZ 110 bI.fst none),some (.arr false gO 74 bI.snd none)]else none else none else none else none else none else none else none;bif decide (sQ<gZ)then bif inb sQ ae.length then bif inb sQ rs.length then bif fQ then bif inb aI ws.length then bif decide (aI.toNat<ws.length)then bif hg ng then bif dT then bif cd then bif hv (out.length+rI<=1000000/\rs.length=ae.length/\pre.length+post.length<=1000000)&&(Nat.beq 4294968065 4294968065&&(Nat.beq 4294968065 4294968065&&(Nat.beq 8589935361 8589935361&&(Nat.beq 9997 9997&&pre.length.beq pre.length)))&&(bl gZ bd ae.length&&ae.all (sJ av.length)))then k nh aO [some ft,some cJ,some hN,some dD,some aF,some (.arr false aZ 110 kZ.fst none),some (.arr false gO 74 kZ.snd none)]else none else none else az else az else none else none else none else none else none else k nh [.ab tZ rs,.ptr 0 0,.ptr 1 0,.ptr 2 0,.ptr 4 0,.I n0,.eptr 4294968065 pre.length 0,.fn 44 [],.bool dT,.own 9997,.ab tZ ae,.I gZ,.I sQ] [some ft,some cJ,some hN,some dD,some aF,some (.arr false aZ 110 ws none),some (.arr false gO 74 out none)]) ?_;conv=>zeta
  rw[<-ai];by_cases aL:j<ae.length
  .obtain⟨aU,bc,bw,bQ,bN⟩:=ew aL an;have hw:inb (aW (ae.getD j .J)) ws.length=true:=jg cn aL;obtain⟨t0,t1⟩:=qq hw;have CI:(aW (ae.getD j .J)).toNat<ws.length:=al;have aD:inb (j:Int) rs.length=true:=ie al al;have aB:∀v:AV,(ws.set (aW (ae.getD j .J)).toNat v).getD (aW (ae.getD j .J)).toNat .J=v:=λv=>by rw[List.getD,GB CI];rfl
   have Iu:decide (pre.length=pre.length)=true:=aS rfl;have aJ:(Nat.beq 4294968065 4294968065&&(Nat.beq 4294968065 4294968065&&(Nat.beq 8589935361 8589935361&&(Nat.beq 9997 9997&&Nat.beq pre.length pre.length))))=true:=aV (b9 _) (aV (b9 _) (aV (b9 _) (aV (b9 _) (b9 _))));have DI:hv (out.length+(ae.length-(j+1))<=1000000/\rs.length=ae.length/\pre.length+post.length<=1000000)=true:=mN ⟨al,d2,d3⟩;have oO:∀x:AV,hv ((out++[x]).length+(ae.length-(j+1))<=1000000/\rs.length=ae.length/\pre.length+post.length<=1000000)=true:=λx=>mN ⟨s3,d2,d3⟩;have auv:∀x:AV,roomB (out.length+([x]:List AV).length) (prog.bytesOf 74)=true:=λx=>hW ps (bH aG);rw[aur dT fL aL d2];refine aT (a' aU) (aT (a' bc) (aT (a' aD) (aT (a' Iu) (aT (a' hw) (aT (a' (aS CI)) ?_)))));unfold ni;simp only[aB,oJ,bw,bQ,bN,DI,oO,auv,aJ,hw,cn,Iu,aS CI,b4,jz,bK];cases ay:hg (aW (rs.getD j .J))
   .rfl
   .cases dT<;>rfl
  .obtain rfl:j=ae.length:=al;rw[cZ al,aus];rfl
 .cases h
def Gs(rs:List AV)(e:AV)(y:Int):Bool:=bif nT hg rs then nS (fA e) y else true
def yu(rs:List AV)(e:AV):Int:=bif nT hg rs then tX (hK e)else hK e
def AT(rs:List AV)(e:AV)(y:Int):Int:=bif nT hg rs then(bif nS (fA e) y then AA (fA e) (hK e) (iW e) y else iW e)else iW e
def rL(ae rs:List AV)(e:AV)(y:Int):List AV×List AV:=hZ (Gs rs e y) (aW e) ae rs (bL e,[])
def vg(ae rs:List AV)(e:AV)(y:Int):AV:=.agg [.int .i64 (aW e),.str (kT e),.ab eR (eP e),.str (fp e),.ab fb (ix e),.ab (.int .u8) (iV e),.int .i64 (fA e),.int .i64 (yu rs e),.int .i64 (AT rs e y),.ab fW (rL ae rs e y).1]
def p9(es:List AV)(f:Nat)(ae rs:List AV)(y:Int):List AV:=bif jV (eP (es.getD f .J)) (rL ae rs (es.getD f .J) y).1 then(es.take f).map bZ++vg ae rs (es.getD f .J) y::(es.drop (f+1)).map bZ else(es.take f).map bZ++(es.drop (f+1)).map bZ
noncomputable def Dl(es:List AV)(nx x:Int)(d:List UInt8)(ae rs:List AV)(y:Int)(f:Nat):Bool:=(small es.length&&(es.all mc&&(es.all hX&&small ae.length)))&&(es.all fB&&(hv (f<es.length/\es.length<=3/\(eo es nx x d ae true).2.1=0/\(eo es nx x d ae true).1=(f:Nat)/\rs.length=ae.length/\ae.length<=1000000/\fA (es.getD f .J)<=y/\0<=hK (es.getD f .J)/\hK (es.getD f .J)<=1000000)&&(!nT nd rs&&(eG y&&(eG (fA (es.getD f .J))&&ae.all (sJ (bL (es.getD f .J)).length))))))
noncomputable def R5(f:Nat):List AV->a6 AV
 |[.agg [.ab (.agg [.int .i64,.str,.slice (.agg [.str,.int .i64]),.str,.slice (.agg [.str,.str]),.slice (.int .u8),.int .i64,.int .i64,.int .i64,.slice (.agg [.str,.int .i64,.int .i64,.bool])]) es,.int .i64 nx],.agg [.int .i64 x,.str d,.ab (.int .i64) ae],.ab (.int .i64) rs,.int .i64 y]=>.bt (Dl es nx x d ae rs y f) (.leaf (.tup [.agg [.ab db (p9 es f ae rs y),.int .i64 nx],.ab yw (rL ae rs (es.getD f .J) y).2,.agg [.int .i64 0,.int .i64 0]]))
 |_=>.no
def aex(f:Nat):SumOK prog 11 (aK (R5 f))/\b5 (aK (R5 f)):=by
 refine iH (K:=[(20,LF)]) (b:=aer) (l:=LF) (g11 f) Tryz.func11 aG aG (auu f) λaj aA k r h=>?_;unfold R5 at h;split at h
 .rename_i es nx x d ae rs y;obtain⟨aa,ai⟩:=u5 h;refine bn (b:=have az:=(es.getD f .J);have aI:=(hZ (nS (fA az) y) (aW az) (List.drop 0 ae) (List.drop 0 rs) (bL az,[]));have aO:=(hZ true (aW az) (List.drop 0 ae) (List.drop 0 rs) (bL az,[]));have aZ:=(Sh.agg [.int .i64,.int .i64,.int .i64]);have bd:=(List.drop (f+1) es);have bk:=(12*64+(0+1));have bI:=[AV.I 0,.I 0];have b3:=(Sh.agg [.str,.int .i64,.int .i64,.bool]);have cJ:=(bl (ae.length:Int) (0:Int) ae.length&&ae.all (sJ (bL az).length));have fM:=(mO bk (bY-bY));have ft:=(Sh.agg [.str,.int .i64]);have gC:=(List.take f es);have aF:=(List.map bZ gC);have fQ:=(Sh.agg [.str,.str]);have hN:=(List.map bZ bd);have dD:=(hN.length+1);have gO:=(Sh.int .u8);have av:=(Sh.agg [.int .i64,.str,ft.slice,.str,fQ.slice,gO.slice,.int .i64,.int .i64,.int .i64,b3.slice]);have bF:=[AV.ab av [],.I 0];have cd:=[AV.ab av (List.map bZ gC++List.map bZ bd),.I nx];have gu:=decide (aF.length=aF.length);have gZ:=(ae.length-Int.toNat (0:Int));have ji:=(mO bk (bY+1-bY));bif small es.length&&(es.all mc&&(es.all hX&&small ae.length))then bif(eo es nx x d ae true).snd.fst !=0 then k (.tup [.agg bF,.ab aZ [],.agg [.I (eo es nx x d ae true).snd.fst,.I (eo es nx x d ae true).snd.snd]])else bif(rs.length:Int)!=(ae.length:Int)then k (.tup [.agg bF,.ab aZ [],.agg [.I 9,.I (-6:Int)]])else bif small rs.length then bif nT nd rs then k (.tup [.agg bF,.ab aZ [],.agg [.I 3,.I (-6:Int)]])else bif !eG y then k (.tup [.agg bF,.ab aZ [],.agg [.I 3,.I (-7:Int)]])else bif inb (eo es nx x d ae true).fst es.length then bif decide (y<(fA (es.getD (eo es nx x d ae true).fst.toNat .J)))then k (.tup [.agg bF,.ab aZ [],.agg [.I 19,.I (-7:Int)]])else bif decide (f<es.length/\es.length<=3)&&es.all fB then bif inb (eo es nx x d ae true).fst (aF.length+dD)then bif small rs.length then bif nT hg rs then bif((λx=>aE+x) 0).beq aE&&(((λx=>aE+x) ((λx=>x+1) 0)).beq (aE+1)&&((eo es nx x d ae true).fst.toNat.beq aF.length&&(eG (fA az)&&(eG y&&decide ((0:Int)<=hK az/\hK az<=(1000000:Int)/\fA az<=y)))))then bif hv (([]:List AV).length+gZ<=1000000/\rs.length=ae.length/\aF.length+hN.length<=1000000)&&(fM.beq 4294968065&&(fM.beq 4294968065&&(ji.beq 8589935361&&((9997:Nat).beq 9997&&(eo es nx x d ae true).fst.toNat.beq aF.length)))&&cJ)then bif gu then bif small aI.fst.length then bif !jV (eP az) aI.fst then bif((λx=>aE+x) 0).beq aE&&decide ((eo es nx x d ae true).fst=(aF.length:Int)/\i64.wrap ((eo es nx x d ae true).fst+(1:Int))=(eo es nx x d ae true).fst+(1:Int)/\aF.length+dD<=1000000)then k (.tup [.agg cd,.ab aZ aI.snd,.agg bI])else none else k (.tup [.agg [.ab av (List.map bZ gC++dU db [.I (aW az),.str (kT az),.ab ft (eP az),.str (fp az),.ab fQ (ix az),.ab gO (iV az),.I (fA az),.I (tX (hK az)),.I (bif nS (fA az) y then AA (fA az) (hK az) (iW az) y else iW az),.ab b3 aI.fst]::List.map bZ bd),.I nx],.ab aZ aI.snd,.agg bI])else none else none else none else none else bif hv (([]:List AV).length+gZ<=1000000/\rs.length=ae.length/\aF.length+hN.length<=1000000)&&(fM.beq 4294968065&&(fM.beq 4294968065&&(ji.beq 8589935361&&((9997:Nat).beq 9997&&(eo es nx x d ae true).fst.toNat.beq aF.length)))&&cJ)then bif gu then bif small aO.fst.length then bif !jV (eP az) aO.fst then bif((λx=>aE+x) 0).beq aE&&decide ((eo es nx x d ae true).fst=(aF.length:Int)/\i64.wrap ((eo es nx x d ae true).fst+(1:Int))=(eo es nx x d ae true).fst+(1:Int)/\aF.length+dD<=1000000)then k (.tup [.agg cd,.ab aZ aO.snd,.agg bI])else none else k (.tup [.agg [.ab av (List.map bZ gC++dU db [.I (aW az),.str (kT az),.ab ft (eP az),.str (fp az),.ab fQ (ix az),.ab gO (iV az),.I (fA az),.I (hK az),.I (iW az),.ab b3 aO.fst]::List.map bZ bd),.I nx],.ab aZ aO.snd,.agg bI])else none else none else none else none else none else none else none else none else none) ?_;conv=>zeta
  unfold Dl at aa;obtain⟨b2,aa⟩:=jn.1 aa;obtain⟨fY,aa⟩:=jn.1 aa;obtain⟨kD,aa⟩:=jn.1 aa;obtain⟨uq,aa⟩:=jn.1 aa;obtain⟨pR,aa⟩:=jn.1 aa;obtain⟨pS,x5⟩:=jn.1 aa;obtain⟨d1,d2,bJ,a2,r1,cQ,s1,t1,t2⟩:=wC kD;have uq:nT nd rs=false:=by simpa using uq
  have b1:((es.take f).map bZ).length=f:=by rw[g',wQ];omega
  have cS:((es.drop (f+1)).map bZ).length=es.length-(f+1):=by rw[g',mJ]
  have kt:∀dT,small (hZ dT (aW (es.getD f .J)) ae rs (bL (es.getD f .J),[])).1.length=true:=λdT=>by rw[aep];show small (bL (es.getD f .J)).length=true;have:=ec.1 fY (es.getD f .J) (by rw[List.getD,fC d1];exact p3 d1);unfold fB cK at this;simp only[ba,fD]at this;exact aS al
  have w1:i64.wrap ((f:Int)+1)=(f:Int)+1:=lT _ al al;have aJ:(Nat.beq 4294968065 4294968065&&(Nat.beq 4294968065 4294968065&&(Nat.beq 8589935361 8589935361&&(Nat.beq 9997 9997&&Nat.beq f f))))=true:=aV (b9 _) (aV (b9 _) (aV (b9 _) (aV (b9 _) (b9 _))));have iG:(hv (([]:List AV).length+(ae.length-Int.toNat 0)<=1000000/\rs.length=ae.length/\f+(es.length-(f+1))<=1000000)&&((Nat.beq 4294968065 4294968065&&(Nat.beq 4294968065 4294968065&&(Nat.beq 8589935361 8589935361&&(Nat.beq 9997 9997&&Nat.beq f f))))&&(bl (ae.length:Int) 0 ae.length&&ae.all (sJ (bL (es.getD f .J)).length))))=true:=aV (mN ⟨GY,r1,al⟩) (aV aJ (aV (e1 (aS al)) x5));have dS:(Nat.beq aE aE&&decide ((f:Int)=(f:Nat)/\(f:Int)+1=(f:Int)+1/\f+((es.length-(f+1))+1)<=1000000))=true:=aV (b9 _) (aS ⟨rfl,rfl,al⟩);rw[bJ,a2,bK,b1,cS,w1];refine aT (a' b2) (aT (fP rfl) (aT (fP (by rw[r1];exact GL _)) (aT (a' (aS al)) (aT (fP uq) (aT (fP (by rw[pR];rfl)) (aT (a' (ie al al)) (aT (fP (cZ al)) ?_)))))));refine aT (a' (aV (aS ⟨d1,d2⟩) fY)) (aT (a' (ie al al)) (aT (a' (aS al)) ?_));rw[<-ai];cases ay:nT hg rs
  .have w4:rL ae rs (es.getD f .J) y=hZ true (aW (es.getD f .J)) ae rs (bL (es.getD f .J),[]):=by unfold rL Gs;rw[ay];rfl
   have R6:vg ae rs (es.getD f .J) y=.agg [.int .i64 (aW (es.getD f .J)),.str (kT (es.getD f .J)),.ab eR (eP (es.getD f .J)),.str (fp (es.getD f .J)),.ab fb (ix (es.getD f .J)),.ab (.int .u8) (iV (es.getD f .J)),.int .i64 (fA (es.getD f .J)),.int .i64 (hK (es.getD f .J)),.int .i64 (iW (es.getD f .J)),.ab fW (hZ true (aW (es.getD f .J)) ae rs (bL (es.getD f .J),[])).1]:=by unfold vg yu AT;rw[ay,w4];rfl
   refine aT (fP rfl) (aT (a' iG) (aT (a' (aS rfl)) (aT (a' (kt true)) ?_)));cases hw:jV (eP (es.getD f .J)) (hZ true (aW (es.getD f .J)) ae rs (bL (es.getD f .J),[])).1
   .have AW:p9 es f ae rs y=(es.take f).map bZ++(es.drop (f+1)).map bZ:=G3;have sa:(!jV (eP (es.getD f .J)) (hZ true (aW (es.getD f .J)) ae rs (bL (es.getD f .J),[])).1)=true:=by rw[hw];rfl
    rw[AW,w4];exact aT (a' sa) (a' dS)
   .have AW:p9 es f ae rs y=(es.take f).map bZ++vg ae rs (es.getD f .J) y::(es.drop (f+1)).map bZ:=G3;have sa:(!jV (eP (es.getD f .J)) (hZ true (aW (es.getD f .J)) ae rs (bL (es.getD f .J),[])).1)=false:=by rw[hw];rfl
    rw[AW,w4,R6];exact fP sa
  .have w4:rL ae rs (es.getD f .J) y=hZ (nS (fA (es.getD f .J)) y) (aW (es.getD f .J)) ae rs (bL (es.getD f .J),[]):=by unfold rL Gs;rw[ay];rfl
   have R6:vg ae rs (es.getD f .J) y=.agg [.int .i64 (aW (es.getD f .J)),.str (kT (es.getD f .J)),.ab eR (eP (es.getD f .J)),.str (fp (es.getD f .J)),.ab fb (ix (es.getD f .J)),.ab (.int .u8) (iV (es.getD f .J)),.int .i64 (fA (es.getD f .J)),.int .i64 (tX (hK (es.getD f .J))),.int .i64 (bif nS (fA (es.getD f .J)) y then AA (fA (es.getD f .J)) (hK (es.getD f .J)) (iW (es.getD f .J)) y else iW (es.getD f .J)),.ab fW (hZ (nS (fA (es.getD f .J)) y) (aW (es.getD f .J)) ae rs (bL (es.getD f .J),[])).1]:=by unfold vg yu AT;rw[ay,w4];rfl
   refine aT (a' rfl) (aT (a' (aV (b9 _) (aV (b9 _) (aV (b9 _) (aV pS (aV pR (aS ⟨t1,t2,s1⟩))))))) (aT (a' iG) (aT (a' (aS rfl)) (aT (a' (kt _)) ?_))));cases hw:jV (eP (es.getD f .J)) (hZ (nS (fA (es.getD f .J)) y) (aW (es.getD f .J)) ae rs (bL (es.getD f .J),[])).1
   .have AW:p9 es f ae rs y=(es.take f).map bZ++(es.drop (f+1)).map bZ:=G3;have sa:(!jV (eP (es.getD f .J)) (hZ (nS (fA (es.getD f .J)) y) (aW (es.getD f .J)) ae rs (bL (es.getD f .J),[])).1)=true:=by rw[hw];rfl
    rw[AW,w4];exact aT (a' sa) (a' dS)
   .have AW:p9 es f ae rs y=(es.take f).map bZ++vg ae rs (es.getD f .J) y::(es.drop (f+1)).map bZ:=G3;have sa:(!jV (eP (es.getD f .J)) (hZ (nS (fA (es.getD f .J)) y) (aW (es.getD f .J)) ae rs (bL (es.getD f .J),[])).1)=false:=by rw[hw];rfl
    rw[AW,w4,R6];exact fP sa
 .cases h
noncomputable def Dp:List AV->a6 AV
 |[.agg [.ab (.agg [.int .i64,.str,.slice (.agg [.str,.int .i64]),.str,.slice (.agg [.str,.str]),.slice (.int .u8),.int .i64,.int .i64,.int .i64,.slice (.agg [.str,.int .i64,.int .i64,.bool])]) es,.int .i64 nx],.agg [.int .i64 x,.str d,.ab (.int .i64) ae],.ab (.int .i64) rs,.int .i64 y]=>.bt (Dl es nx x d ae rs y (eo es nx x d ae true).1.toNat) (.leaf (.tup [.agg [.ab db (p9 es (eo es nx x d ae true).1.toNat ae rs y),.int .i64 nx],.ab yw (rL ae rs (es.getD (eo es nx x d ae true).1.toNat .J) y).2,.agg [.int .i64 0,.int .i64 0]]))
 |_=>.no
def as3:SumOK prog 11 (aK Dp)/\b5 (aK Dp):=by
 refine⟨SumOK.Jt λaA=>?_,qD _⟩;by_cases hm:∃es nx x d ae rs y,aA=[.agg [.ab db es,.int .i64 nx],.agg [.int .i64 x,.str d,.ab gm ae],.ab gm rs,.int .i64 y]
 .obtain⟨es,nx,x,d,ae,rs,y,rfl⟩:=hm;exact⟨_,(aex (eo es nx x d ae true).1.toNat).1,λaj k r h=>h⟩
 .refine⟨_,(aex 0).1,λaj k r h=>?_⟩;exfalso;change(Dp aA).run k=some r at h;unfold Dp at h;split at h
  .exact hm ⟨_,_,_,_,_,_,_,rfl⟩
  .cases h
def pg(log:List AV)(t:Int)(f:List UInt8)(ae:List AV)(d:List UInt8)(an bs:List AV):List AV×(Int×Int):=bif(iU f ae d an bs).1 !=0 then([],((iU f ae d an bs).1,-6))else bif decide (((log++tV (pV t f ae d an bs)).length:Int)>200000)then([],(1,-9))else(log++tV (pV t f ae d an bs),(0,0))
def vf(log:List AV)(t:Int)(f:List UInt8)(ae:List AV)(d:List UInt8)(an bs:List AV):Bool:=(eG t&&Ay f ae d an bs)&&(decide (log.length<=200000)&&((iU f ae d an bs).1 !=0||u4 f ae d an bs))
def R7:List AV->a6 AV
 |[.ab (.int .u8) log,.agg [.int .i64 1,.int .i64 t,.str f,.ab (.agg [.str,.int .i64]) ae,.str d,.ab (.agg [.str,.str]) an,.ab (.int .u8) bs,.int .i64 0,.str [],.ab (.int .i64) [],.ab (.int .i64) []]]=>.bt (vf log t f ae d an bs) (.leaf (.tup [.ab fv (pg log t f ae d an bs).1,.agg [.int .i64 (pg log t f ae d an bs).2.1,.int .i64 (pg log t f ae d an bs).2.2]]))
 |_=>.no
def R8{aj:Type}(k:AV->Option aj)(log:List AV)(t:Int)(f:List UInt8)(ae:List AV)(d:List UInt8)(an bs:List AV):Option aj:=bif u4 f ae d an bs then bif decide (log.length+(tV (pV t f ae d an bs)).length<=1000000)then bif decide (((log++tV (pV t f ae d an bs)).length:Int)>200000)then k (.tup [.ab fv [],.agg [.int .i64 1,.int .i64 (-9)]])else k (.tup [.ab fv (log++tV (pV t f ae d an bs)),.agg [.int .i64 0,.int .i64 0]])else none else none
def auw:SumOK prog 67 (aK R7)/\b5 (aK R7):=by
 refine eJ (aM.br (aM.br (aM.br (aM.br (aM.br (aM.br bV aqg) arY) aqj) rz) ry) uU) Tryz.func67 aG λaj aA k r h=>?_;unfold R7 at h;split at h
 .rename_i log t f ae d an bs;obtain⟨aa,ai⟩:=bz h;unfold vf at aa;simp only[ba]at aa;obtain⟨b2,bX,c3⟩:=aa;have bX:=bH bX;have CT:=aV b2.1 b2.2;refine bn (b:=have av:=(iU f ae d an bs);bif decide ((log.length:Int)>200000)then k (.tup [.ab fv [],.agg [.I 1,.I (-1)]])else bif eG t&&Ay f ae d an bs then(bif av.1 !=0 then(bif av.1 !=0 then k (.tup [.ab fv [],.agg [.I av.1,.I (-6)]])else R8 k log t f ae d an bs)else R8 k log t f ae d an bs)else none) ?_;conv=>zeta
  refine aT (fP (cZ al)) (aT (a' CT) ?_);rw[<-ai];unfold pg;cases aH:((iU f ae d an bs).1 !=0)
  .have c3:u4 f ae d an bs=true:=by rw[aH]at c3;simpa using c3
   have b1:=aqh (aaY (t:=t) c3);rw[cU,cU];unfold R8;rw[c3,b4,aS (by omega:log.length+(tV (pV t f ae d an bs)).length<=1000000),b4];cases decide (((log++tV (pV t f ae d an bs)).length:Int)>200000)
   .rfl
   .rfl
  .rfl
 .cases h
abbrev ln:Sh:=.agg [.str,.slice eR,.str,.slice fb,.slice fv]
def LG:List AV->a6 AV
 |[.agg [.ab (.agg [.int .i64,.str,.slice (.agg [.str,.int .i64]),.str,.slice (.agg [.str,.str]),.slice (.int .u8),.int .i64,.int .i64,.int .i64,.slice (.agg [.str,.int .i64,.int .i64,.bool])]) es,.int .i64 nx,.ab (.int .u8) log,.ab (.agg [.str,.slice (.agg [.str,.int .i64]),.str,.slice (.agg [.str,.str]),.slice (.int .u8)]) gs,.ab (.agg [.int .i64,.int .i64,.int .i64]) eY,.bool ok],.agg [.int .i64 1,.int .i64 t,.str f,.ab (.agg [.str,.int .i64]) ae,.str d,.ab (.agg [.str,.str]) an,.ab (.int .u8) bs,.int .i64 0,.str [],.ab (.int .i64) [],.ab (.int .i64) []]]=>.bt (vf log t f ae d an bs) (.leaf (.agg [.ab db es,.int .i64 nx,.ab fv (pg log t f ae d an bs).1,.ab ln gs,.ab yw eY,.bool (ok&&(pg log t f ae d an bs).2.1==0)]))
 |_=>.no
def auy:SumOK prog 25 (aK LG)/\b5 (aK LG):=by
 refine eJ (aM.br bV auw) Tryz.func25 aG λaj aA k r h=>?_;unfold LG at h;split at h
 .rename_i es nx log gs eY ok t f ae d an bs;obtain⟨aa,ai⟩:=bz h;refine bn (b:=have aF:=(Sh.int .u8);have av:=(Sh.agg [Sh.int i64,Sh.str,(Sh.agg [Sh.str,Sh.int i64]).slice,Sh.str,(Sh.agg [Sh.str,Sh.str]).slice,aF.slice,Sh.int i64,Sh.int i64,Sh.int i64,(Sh.agg [Sh.str,Sh.int i64,Sh.int i64,Sh.bool]).slice]);have az:=(Sh.agg [Sh.str,(Sh.agg [Sh.str,Sh.int i64]).slice,Sh.str,(Sh.agg [Sh.str,Sh.str]).slice,aF.slice]);have aI:=(pg log t f ae d an bs);have aO:=(Sh.agg [.int .i64,.int .i64,.int .i64]);bif vf log t f ae d an bs then bif ok then k (.agg [.ab av es,.I nx,.ab aF aI.fst,.ab az gs,.ab aO eY,.bool (aI.snd.fst==0)])else k (.agg [.ab av es,.I nx,.ab aF aI.fst,.ab az gs,.ab aO eY,.bool false])else none) ?_;conv=>zeta
  rw[<-ai];refine aT (a' aa) ?_;cases ok<;>rfl
 .cases h
noncomputable def auz:Env:={pure:=[(24,aK Lj),(25,aK LG)]}
def g7:aM prog auz:=aM.br (aM.br bV auy) arI
def lC(es:List AV)(nx:Int)(f:List UInt8)(ae:List AV)(d:List UInt8)(an bs:List AV)(y:Int):List AV×(Int×Int):=bif(iU f ae d an bs).1 !=0 then([],(0,(iU f ae d an bs).1))else(es.map bZ++[Gg nx f ae d an bs y],(nx+1,0))
def Gu:List AV->a6 AV
 |[.agg [.ab (.agg [.int .i64,.str,.slice (.agg [.str,.int .i64]),.str,.slice (.agg [.str,.str]),.slice (.int .u8),.int .i64,.int .i64,.int .i64,.slice (.agg [.str,.int .i64,.int .i64,.bool])]) es,.int .i64 nx,.ab (.int .u8) log,.ab (.agg [.str,.slice (.agg [.str,.int .i64]),.str,.slice (.agg [.str,.str]),.slice (.int .u8)]) gs,.ab (.agg [.int .i64,.int .i64,.int .i64]) eY,.bool ok],.agg [.str f,.ab (.agg [.str,.int .i64]) ae,.str d,.ab (.agg [.str,.str]) an,.ab (.int .u8) bs],.int .i64 y]=>.bt (yj es nx f ae d an bs y&&vf log y f ae d an bs) (.leaf (.agg [.ab db (lC es nx f ae d an bs y).1,.int .i64 (lC es nx f ae d an bs y).2.1,.ab fv (pg log y f ae d an bs).1,.ab ln gs,.ab yw eY,.bool ((ok&&(lC es nx f ae d an bs y).2.2==0)&&(pg log y f ae d an bs).2.1==0)]))
 |_=>.no
def as4:SumOK prog 7 (aK Gu)/\b5 (aK Gu):=by
 refine eJ g7 Tryz.func7 aG λaj aA k r h=>?_;unfold Gu at h;split at h
 .rename_i es nx log gs eY ok f ae d an bs y;obtain⟨aa,ai⟩:=bz h;refine bn (b:=have aF:=(pg log y f ae d an bs);have aI:=(Sh.agg [.int .i64,.int .i64,.int .i64]);have aO:=(Sh.int .u8);have av:=(Sh.agg [Sh.int i64,Sh.str,(Sh.agg [Sh.str,Sh.int i64]).slice,Sh.str,(Sh.agg [Sh.str,Sh.str]).slice,aO.slice,Sh.int i64,Sh.int i64,Sh.int i64,(Sh.agg [Sh.str,Sh.int i64,Sh.int i64,Sh.bool]).slice]);have az:=(Sh.agg [Sh.str,(Sh.agg [Sh.str,Sh.int i64]).slice,Sh.str,(Sh.agg [Sh.str,Sh.str]).slice,aO.slice]);have aZ:=vf log y f ae d an bs;have bd:=(List.map bZ es++[Gg nx f ae d an bs y]);have bk:=(false&&aF.snd.fst==0);bif yj es nx f ae d an bs y then bif(iU f ae d an bs).fst !=0 then bif ok then bif aZ then k (.agg [.ab av [],.I 0,.ab aO aF.fst,.ab az gs,.ab aI eY,.bool ((iU f ae d an bs).fst==0&&aF.snd.fst==0)])else none else bif aZ then k (.agg [.ab av [],.I 0,.ab aO aF.fst,.ab az gs,.ab aI eY,.bool bk])else none else bif ok then bif aZ then k (.agg [.ab av bd,.I (nx+(1:Int)),.ab aO aF.fst,.ab az gs,.ab aI eY,.bool ((0:Int)==0&&aF.snd.fst==0)])else none else bif aZ then k (.agg [.ab av bd,.I (nx+(1:Int)),.ab aO aF.fst,.ab az gs,.ab aI eY,.bool bk])else none else none) ?_;conv=>zeta
  rw[<-ai];obtain⟨b2,bX⟩:=jn.1 aa;refine aT (a' b2) ?_;unfold lC;cases aH:((iU f ae d an bs).1 !=0)
  .cases ok
   .exact a' bX
   .exact a' bX
  .cases ok
   .exact a' bX
   .exact a' bX
 .cases h
def fZ(e:AV):List UInt8:=(e.cells.headD .J).toStr
def ev(e:AV):List AV:=(e.cells.tail.headD .J).toList
def fS(e:AV):List UInt8:=(e.cells.tail.tail.headD .J).toStr
def fT(e:AV):List AV:=(e.cells.tail.tail.tail.headD .J).toList
def fw(e:AV):List AV:=(e.cells.tail.tail.tail.tail.headD .J).toList
noncomputable def LH:Env:={pure:=[(8,aK tQ),(22,aK KS),(23,aK FV)]}
def g6:aM prog LH:=aM.br (aM.br (aM.br bV aaJ) ap7) At
noncomputable def aey:Code:=((Tryz.f6.body.map c7).getD []).headD .skip
noncomputable def aez:Code:=((Tryz.f6.body.map c7).getD []).tail.headD .skip
noncomputable def aeA:Code:=((Tryz.f6.body.map c7).getD []).tail.tail.headD .skip
def auA(g:AV):Int:=(tR (fZ g) (ev g) (fS g) (fT g) (fw g)).1
def vc(g:AV):Bool:=Av (fZ g) (ev g) (fS g) (fT g) (fw g)
def pZ(g:AV):Bool:=auA g !=0||(decide (((ev g).length:Int)>4)||decide (((yd (fT g) (fw g)).length:Int)>2000))
def wO(gs:List AV)(i:Nat):Bool:=pZ (gs.getD i .J)
theorem yr{n:Int}(h:(n !=0)=false):n=0:=qT
def auB{aC bs:List AV}(h:(sK aC bs).1=0):(decide (aC.length<=60/\bs.length<=12000)&&aC.all sL)=true:=by
 unfold sK at h;by_cases af:(aC.length:Int)>60
 .rw[aS af]at h;exact absurd (show(2:Int)=0 from h) gn
 rw[cZ af]at h;cases aH:(bx (qJ aC) aC.length 0).isSome
 .rw[aH]at h;by_cases ao:(bs.length:Int)>12000
  .rw[aS ao]at h;exact absurd (show(1:Int)=0 from h) gn
  .rw[aaO aH,aS al];rfl
 .exfalso;have a1:qJ aC (yc aC)=true:=by unfold yc;obtain⟨q,ma⟩:=mj.1 aH;rw[ma];exact(sA ma).2.2.1
  rw[aH]at h;have ca:pb (eS (aC.getD (yc aC) .J)) (fa (aC.getD (yc aC) .J))=0:=h;unfold qJ at a1;rw[ca]at a1;exact absurd a1 gn
def adD{f:List UInt8}{ae:List AV}{d:List UInt8}{an bs:List AV}(h:(tR f ae d an bs).1=0):(decide (an.length<=60/\bs.length<=12000)&&an.all sL)=true:=by
 unfold tR at h;cases af:(qL f ae d).1==0
 .rw[af]at h;have ao:(qL f ae d).1=0:=h;rw[ao]at af;exact absurd af gn
 .cases ao:(sK an bs).1 !=0
  .exact auB vt
  .rw[af,ao]at h;have a1:(sK an bs).1=0:=h;rw[a1]at ao;exact absurd ao gn
def aeB:List AV->List (Option Row)->a6 cy
 |[.ab (.agg [.str,.slice (.agg [.str,.int .i64]),.str,.slice (.agg [.str,.str]),.slice (.int .u8)]) gs,.ab (.int .i64) [],.ab (.int .i64) [],.bool z,.int .i64 i],[]=>
  .bt (bl gs.length i gs.length&&gs.all vc) (h8 (wO gs) gs.length (λq=>.leaf (.ret,[.ab ln gs,.ab (.int .i64) [],.ab (.int .i64) [],.bool false,.int .i64 (q:Nat)],[]))
   (.leaf (.exit 0,[.ab ln gs,.ab (.int .i64) [],.ab (.int .i64) [],.bool z,.int .i64 gs.length],[])) i.toNat)
 |_,_=>.no
def R9:Ev.Loop:=⟨{len:=80,dr:=[0,1,2,6,7]},dP aeB⟩
def auC(vs:List AV)(_:List (Option Row)):Nat:=match vs with
 |[.ab _ gs,_,_,_,.int _ i]=>((gs.length:Int)-i).toNat
 |_=>0
def auD(K:List (Nat×Ev.Loop)):dj prog LH K aey R9:=by
 refine ed g6.dX rfl (ch.nil aG) auC (λaj vs rs k r h=>?_);unfold aeB at h;split at h
 .rename_i gs z i;obtain⟨aa,ai⟩:=bz h;rw[ba]at aa;obtain⟨aa,cn⟩:=aa;obtain⟨_,an,j,rfl,aP⟩:=eA aa;rw[bK]at ai;refine bn (b:=have av:=(Sh.agg [Sh.str,(Sh.agg [Sh.str,Sh.int IntKind.i64]).slice,Sh.str,(Sh.agg [Sh.str,Sh.str]).slice,(Sh.int IntKind.u8).slice]);have az:=(gs.getD j .J);have aO:=(Sh.int .i64);have aZ:=(gs.length:Int);have bd:=(j:Int);have aF:=[AV.ab av gs,.ab aO [],.ab aO [],.bool false,.I bd];have bk:=inb bd gs.length;have bF:=(fT az);have bI:=(IntKind.i64.wrap (bd+(1:Int)));have aI:=(bx (wO gs) gs.length bI.toNat);bif decide (bd<aZ)then bif bk then bif Av (fZ az) (ev az) (fS az) bF (fw az)then bif(tR (fZ az) (ev az) (fS az) bF (fw az)).fst !=0 then k .ret aF []else bif bk then bif decide (((ev az).length:Int)>(4:Int))then k .ret aF []else bif bk then bif decide (bF.length<=60/\(fw az).length<=12000)&&bF.all sL then bif decide (((yd bF (fw az)).length:Int)>(2000:Int))then k .ret aF []else bif decide ((aZ-IntKind.i64.wrap (bd+(1:Int))).toNat<(aZ-bd).toNat)then bif bl aZ bI gs.length&&gs.all vc then bif aI.isSome then k .ret [.ab av gs,.ab aO [],.ab aO [],.bool false,.I ((aI.getD 0):Int)] []else k (.exit 0) [.ab av gs,.ab aO [],.ab aO [],.bool z,.I aZ] []else none else none else none else none else none else none else none else k (.exit 0) [.ab av gs,.ab aO [],.ab aO [],.bool z,.I bd] []) ?_;conv=>zeta
  rw[<-ai];by_cases aL:j<gs.length
  .obtain⟨aU,bc,bw,bQ,bN⟩:=ew aL an;have aw:vc (gs.getD j .J)=true:=jg cn aL;have lV:wO gs j=((tR (fZ (gs.getD j .J)) (ev (gs.getD j .J)) (fS (gs.getD j .J)) (fT (gs.getD j .J)) (fw (gs.getD j .J))).1 !=0||(decide (((ev (gs.getD j .J)).length:Int)>4)||decide (((yd (fT (gs.getD j .J)) (fw (gs.getD j .J))).length:Int)>2000))):=rfl;have hb:Av (fZ (gs.getD j .J)) (ev (gs.getD j .J)) (fS (gs.getD j .J)) (fT (gs.getD j .J)) (fw (gs.getD j .J))=true:=aw;rw[j2 _ _ _ _ _ aL,lV,aU,bc,hb,bw,bK,bQ,bN,cn];cases hm:(tR (fZ (gs.getD j .J)) (ev (gs.getD j .J)) (fS (gs.getD j .J)) (fT (gs.getD j .J)) (fw (gs.getD j .J))).1 !=0;rotate_left
   .rfl
   have dA:=adD (yr hm);rw[dA];cases decide (((ev (gs.getD j .J)).length:Int)>4)
   .cases decide (((yd (fT (gs.getD j .J)) (fw (gs.getD j .J))).length:Int)>2000)<;>rfl
   .rfl
  .obtain rfl:j=gs.length:=al;exact jo
 .cases h
def aeC:List AV->List (Option Row)->a6 cy
 |[.ab (.int .i64) [],.ab (.int .i64) [],.int .i64 0],[]=>.leaf (.exit 2,[.ab (.int .i64) [],.ab (.int .i64) [],.int .i64 0],[])
 |_,_=>.no
def R':Ev.Loop:=⟨{len:=80,dr:=[1,2,8]},dP aeC⟩
def aeD(_:List AV)(_:List (Option Row)):Nat:=0
def auE(K:List (Nat×Ev.Loop)):dj prog LH K aez R':=by
 refine ed g6.dX rfl (ch.nil aG) aeD (λaj vs rs k r h=>?_);unfold aeC at h;split at h
 .skip
  refine bn (b:=k (.exit 2) [.ab (.int .i64) [],.ab (.int .i64) [],.I 0] []) ?_;exact h
 .cases h
def aeE:List AV->List (Option Row)->a6 cy
 |[.ab (.int .i64) [],.int .i64 0],[]=>.leaf (.exit 4,[.ab (.int .i64) [],.int .i64 0],[])
 |_,_=>.no
def Sa:Ev.Loop:=⟨{len:=80,dr:=[2,9]},dP aeE⟩
def auF(K:List (Nat×Ev.Loop)):dj prog LH K aeA Sa:=by
 refine ed g6.dX rfl (ch.nil aG) aeD (λaj vs rs k r h=>?_);unfold aeE at h;split at h
 .skip
  refine bn (b:=k (.exit 4) [.ab (.int .i64) [],.I 0] []) ?_;exact h
 .cases h
def Dq(gs:List AV):Bool:= !decide ((gs.length:Int)>3)&& !(bx (wO gs) gs.length 0).isSome
def Gt:List AV->a6 AV
 |[.ab (.agg [.str,.slice (.agg [.str,.int .i64]),.str,.slice (.agg [.str,.str]),.slice (.int .u8)]) gs,.ab (.int .i64) [],.ab (.int .i64) []]=>.bt (gs.all vc) (.leaf (.bool (Dq gs)))
 |_=>.no
def as5:SumOK prog 6 (aK Gt)/\b5 (aK Gt):=by
 refine xZ (K:=[(4,R9),(9,R'),(14,Sa)]) g6 Tryz.func6 (bs:=[aey,aez,aeA]) aG (λb ag=>?_) λaj aA k r h=>?_
 .simp only[gv,mh,mi]at ag;rcases ag with rfl|rfl|rfl
  .exact⟨R9,aG,auD _⟩
  .exact⟨R',aG,auE _⟩
  .exact⟨Sa,aG,auF _⟩
 unfold Gt at h;split at h
 .rename_i gs;obtain⟨cn,ai⟩:=bz h;refine bn (b:=bif decide ((gs.length:Int)>(3:Int))then k (.bool false)else bif bl (gs.length:Int) (0:Int) gs.length&&gs.all vc then bif(bx (wO gs) gs.length 0).isSome then k (.bool false)else k (.bool true)else none) ?_;rw[<-ai];unfold Dq;by_cases af:(gs.length:Int)>3
  .rw[aS af];rfl
  rw[cZ af,e1 (aS al),cn];cases(bx (wO gs) gs.length 0).isSome<;>rfl
 .cases h
end Go.Proofs.YtijdnecnjenleaaGreatDoor
namespace Go.Mi
open Go.Ev (AV Sh Summ Env Ex find entersB isAggT placeOf partsKnown fieldOf evBin nilB shOf depth roomB lenB inb slb decA minInt maxInt union1 ancTab)
variable{t:TypeId}{v:Value}{vs:List Value}{x:Operand}{aj:Type}{w':World}{off:Nat}{u:Value}{w:World}{us:List Value}{captured:Array Operand}
inductive a8 where
 |J
 |undef
 |int (k:IntKind) (n:Int)
 |bool (b:Bool)
 |str (s:List UInt8)
 |nl (v:Value)
 |agg (cs:List a8)
 |tup (cs:List a8)
 |ptr (id off:Nat)
 |bA (id off len cap wd:Nat)
 |bf
 |fn (f:Nat) (gF:List a8)
 |lR (f:Nat) (first:List a8)
 |mp (id:Nat)
 |it (id:Nat)
 |iq (id:Nat)
 deriving Inhabited
inductive bT where
 |cells (fV:Bool) (cs:List a8)
 |map (es:List (a8×a8×Nat)) (clock:Nat)
 |iter (s:List UInt8) (pos:Nat)
 |loop (busy:Bool) (tm:List a8) (bj:Array Tmp) (assign body:Code)
 deriving Inhabited
structure dG where
 tm:List a8
 h:List (Nat×bT)
 nx:Nat
noncomputable def nth(l:List a8):Nat->a8:=@List.rec a8 (λ_=>Nat->a8) (λ_=>.J) (λa _ ih n=>@Nat.rec (λ_=>a8) a (λm _=>ih m) n) l
noncomputable def put(v:a8)(l:List a8):Nat->List a8:=@List.rec a8 (λ_=>Nat->List a8) (λ_=>[]) (λa l ih n=>@Nat.rec (λ_=>List a8) (v::l) (λm _=>a::ih m) n) l
noncomputable def get(h:List (Nat×bT))(id:Nat):Option bT:=@List.rec (Nat×bT) (λ_=>Option bT) none (λa _ ih=>bif Nat.beq a.1 id then some a.2 else ih) h
noncomputable def del(h:List (Nat×bT))(id:Nat):List (Nat×bT):=@List.rec (Nat×bT) (λ_=>List (Nat×bT)) [] (λa _ ih=>bif Nat.beq a.1 id then ih else a::ih) h
noncomputable def hV(h:List (Nat×bT))(p:Nat×Option bT):List (Nat×bT):=
 match p.2 with
 |some o=>(p.1,o)::del h p.1
 |none=>del h p.1
mutual
def a8.h3:a8->AV
 |.undef=>.undef
 |.int k n=>.int k n
 |.bool b=>.bool b
 |.str s=>.str s
 |.nl _=>.nl
 |.agg cs=>.agg (a8.aA cs)
 |.tup cs=>.tup (a8.aA cs)
 |.fn f cs=>.fn f (a8.aA cs)
 |_=>.J
def a8.aA:List a8->List AV
 |[]=>[]
 |c::cs=>c.h3::a8.aA cs
end
mutual
def qQ:AV->Option a8
 |.undef=>some .undef
 |.int k n=>some (.int k n)
 |.bool b=>some (.bool b)
 |.str s=>some (.str s)
 |.agg cs=>match Ds cs with
  |some l=>some (.agg l)
  |none=>none
 |.tup cs=>match Ds cs with
  |some l=>some (.tup l)
  |none=>none
 |_=>none
def Ds:List AV->Option (List a8)
 |[]=>some []
 |c::cs=>match qQ c with
  |none=>none
  |some m=>match Ds cs with
   |some l=>some (m::l)
   |none=>none
end
def p':Value->a8
 |.int k n=>.int k n
 |.bool b=>.bool b
 |.string s=>.str s.data.toList
 |.slice none 0 0=>.bf
 |v=>if nilB v then .nl v else .J
def ofConst:Value->a8
 |.agg cs=>if cs.toList.all Value.oneCell' then .agg (cs.toList.map p')else .J
 |.tuple vs=>if vs.size=0 then .undef else .J
 |v=>p' v
def a8.cells:a8->List a8
 |.agg cs=>cs
 |v=>[v]
def a8.laid:a8->Bool
 |.J|.undef|.tup _=>false
 |_=>true
noncomputable def bG(tm:List a8):Operand->a8
 |.tmp t=>nth tm t
 |.const v=>ofConst v
 |.func f=>.fn f []
 |.global _=>.J
noncomputable def iv(tm:List a8):List Operand->List a8
 |[]=>[]
 |x::xs=>bG tm x::iv tm xs
structure jG where
 v:a8
 reads:List Nat:=[]
 dv:List (Nat×Option bT):=[]
noncomputable def rr(h:List (Nat×bT))(id:Nat):Option (List a8):=
 match get h id with
 |some (.cells _ cs)=>some cs
 |_=>none
def eM(cs:List a8)(off:Nat)(new:List a8):List a8:=cs.take off++new++cs.drop (off+new.length)
def rN(P:Program)(t:TypeId):Option (List a8):=
 match P.info? t with
 |some i=>match i.zero with
  |some v=>if(ofConst v).laid then some (ofConst v).cells else none
  |none=>none
 |none=>none
def sU(P:Program)(e:TypeId):Nat->Option (List a8)
 |0=>some []
 |n+1=>match rN P e,sU P e n with
  |some z,some l=>some (z++l)
  |_,_=>none
def ud(place:Nat->Option (Nat×Nat))(cells:List a8):List (Nat×a8)->Option (List a8)
 |[]=>some cells
 |(i,v)::rest=>
  match place i with
  |none=>none
  |some p=>if v.laid&&(v.cells.length==p.2&&Nat.ble (p.1+v.cells.length) cells.length)then ud place (eM cells p.1 v.cells) rest else none
def tI(P:Program)(t:TypeId)(cs:List a8)(y:a8->Option aj):Option aj:=
 if isAggT P t then
  (if Nat.ble (P.cellsOf t) cs.length then y (.agg (cs.take (P.cellsOf t)))else none)
 else if(P.underlying t).isSome then
  match cs with
  |c::_=>y c
  |[]=>none
 else none
def aeF:a8->Option Int
 |.int _ n=>some n
 |_=>none
def jW(d:Nat):Option a8->Option Int
 |none=>some d
 |some v=>aeF v
def p1(P:Program)(e:TypeId):Bool:=
 match P.info? e with
 |some i=>Nat.blt 0 i.size&&((match i.zero with|some z=>z.cells.size==i.size|none=>false)&&(rN P e).isSome)
 |none=>false
def Dt(s:List UInt8):List a8:=s.map λb=>.int .u8 (b.toNat:Int)
def Du(cs:List a8):Option (List UInt8):=
 match cs with
 |[]=>some []
 |.int .u8 n::cs=>match Du cs with
  |some l=>some (UInt8.ofNat n.toNat::l)
  |none=>none
 |_=>none
noncomputable def tD(h:List (Nat×bT))(wd:Nat):a8->Option (List a8×List Nat)
 |.bf=>some ([],[])
 |.bA id off len _ EK=>if Nat.beq wd EK then(match rr h id with
  |some cs=>if Nat.ble (off+len*wd) cs.length then some ((cs.drop off).take (len*wd),[id])else none
  |none=>none)else none
 |_=>none
noncomputable def wh(P:Program)(h:List (Nat×bT))(e b':TypeId)(z:a8):Option (List a8×List Nat):=
 match P.underlying b' with
 |some .string=>match z with
  |.str b=>if Nat.beq (P.cellsOf e) 1 then some (Dt b,[])else none
  |_=>none
 |some (.slice e')=>if Nat.beq e e' then tD h (P.cellsOf e) z else none
 |_=>none
noncomputable def Cs(P:Program)(nid:Nat)(e:TypeId)(q:List a8×List Nat)(x:a8)(h:List (Nat×bT))(y:jG->Option aj):Option aj:=
 match x with
 |.bf=>if q.1.isEmpty then y {v:=.bf,reads:=q.2}else
  if roomB (q.1.length/P.cellsOf e) (P.bytesOf e)then
   y {v:=.bA nid 0 (q.1.length/P.cellsOf e) (q.1.length/P.cellsOf e) (P.cellsOf e),reads:=q.2,dv:=[(nid,some (.cells false q.1))]}
  else none
 |.bA id off len cap wd=>
  if !Nat.beq wd (P.cellsOf e)then none else
  if q.1.isEmpty then y {v:=.bA id off len cap wd,reads:=q.2}else
  match get h id with
  |some (.cells false cs)=>
   if Nat.ble (len+q.1.length/wd) cap then
    (if Nat.ble (off+len*wd+q.1.length) cs.length then
     y {v:=.bA id off (len+q.1.length/wd) cap wd,reads:=id::q.2,dv:=[(id,some (.cells false (eM cs (off+len*wd) q.1)))]}
    else none)
   else if Nat.ble (off+len*wd) cs.length&&roomB (len+q.1.length/wd) (P.bytesOf e)then
    y {v:=.bA nid 0 (len+q.1.length/wd) (len+q.1.length/wd) wd,reads:=id::q.2,dv:=[(id,none),(nid,some (.cells false ((cs.drop off).take (len*wd)++q.1)))]}
   else none
  |_=>none
 |_=>none
noncomputable def Je(P:Program)(nid:Nat)(ae:List TypeId)(args:List a8)(h:List (Nat×bT))(y:jG->Option aj):Option aj:=
 match ae,args with
 |[t,b'],[x,z]=>
  match P.underlying t with
  |some (.slice e)=>
   if !p1 P e then none else
   match P.underlying b',x,z with
   |some (.int _),.bf,.int .i64 n=>
    if decide (0<n)&&(decide (n<=100000)&&roomB n.toNat (P.bytesOf e))then(match sU P e n.toNat with
     |some l=>y {v:=.bA nid 0 n.toNat n.toNat (P.cellsOf e),dv:=[(nid,some (.cells false l))]}
     |none=>none)else none
   |_,_,_=>
   match wh P h e b' z with
   |none=>none
   |some q=>Cs P nid e q x h y
  |_=>none
 |_,_=>none
noncomputable def Ct(P:Program)(nid:Nat)(b:Builtin)(ae:List TypeId)(args:List a8)(h:List (Nat×bT))(y:jG->Option aj):Option aj:=
 match b with
 |.append=>Je P nid ae args h y
 |.len=>
  match ae,args with
  |t::_,[x]=>
   match P.underlying t,x with
   |some .string,.str s=>y {v:=.int .i64 s.length}
   |some (.slice _),.bf=>y {v:=.int .i64 0}
   |some (.slice _),.bA _ _ len _ _=>y {v:=.int .i64 len}
   |_,_=>none
  |_,_=>none
 |.cap=>
  match ae,args with
  |t::_,[.bf]=>
   match P.underlying t with
   |some (.slice _)=>y {v:=.int .i64 0}
   |_=>none
  |_,_=>none
 |.copy=>
  match ae,args with
  |[t,b'],[x,z]=>
   match P.underlying t with
   |some (.slice e)=>
    match wh P h e b' z with
    |none=>none
    |some q=>
     match x with
     |.bA id off len _ wd=>
      if !Nat.beq wd (P.cellsOf e)|| !p1 P e then none else
      match get h id with
      |some (.cells false cs)=>
       if Nat.ble (off+min (q.1.length/wd) len*wd) cs.length then
        y {v:=.int .i64 (min (q.1.length/wd) len:Nat),reads:=id::q.2,dv:=[(id,some (.cells false (eM cs off (q.1.take (min (q.1.length/wd) len*wd)))))]}
       else none
      |_=>none
     |_=>none
   |_=>none
  |_,_=>none
 |.clear=>
  match ae,args with
  |[t],[x]=>
   match P.underlying t,x with
   |some (.slice _),.bf=>y {v:=.undef}
   |some (.slice _),.bA _ _ 0 _ _=>y {v:=.undef}
   |some (.slice e),.bA id off len _ _=>
    if !p1 P e||Nat.beq len 0 then none else
    match get h id,sU P e len with
    |some (.cells false cs),some z=>if Nat.ble (off+z.length) cs.length then y {v:=.undef,reads:=[id],dv:=[(id,some (.cells false (eM cs off z)))]}else none
    |_,_=>none
   |_,_=>none
  |_,_=>none
 |.min=>
  match args with
  |.int gq x::rest=>match minInt gq x (a8.aA rest)with
   |some n=>y {v:=.int gq n}
   |none=>none
  |_=>none
 |.max=>
  match args with
  |.int gq x::rest=>match maxInt gq x (a8.aA rest)with
   |some n=>y {v:=.int gq n}
   |none=>none
  |_=>none
 |_=>none
def Sb(P:Program)(bE:TypeId)(k cl:a8):Option Bool:=
 match P.underlying bE,k,cl with
 |some (.int gq),.int j a,.int et b=>if j=gq/\et=gq then some (a==b)else none
 |some .string,.str a,.str b=>some (a==b)
 |some .bool,.bool a,.bool b=>some (a==b)
 |_,_,_=>none
def yy(P:Program)(bE:TypeId)(k:a8):Bool:=
 match P.underlying bE,k with
 |some (.int j),.int et _=>decide (j=et)
 |some .string,.str _=>true
 |some .bool,.bool _=>true
 |some (.struct aC),.agg cs=>aC.toList.all λf=>match P.underlying f.type,cs[f.offset]?with
  |some (.int j),some (.int et _)=>decide (j=et)
  |some .string,some (.str _)=>true
  |some .bool,some (.bool _)=>true
  |_,_=>false
 |_,_=>false
def yz(P:Program)(bE:TypeId)(k:a8):List (a8×a8×Nat)->Nat->Option (Option (Nat×a8×Nat))
 |[],_=>some none
 |e::es,i=>match Sb P bE k e.1 with
  |some true=>some (some (i,e.2.1,e.2.2))
  |some false=>yz P bE k es (i+1)
  |none=>none
def uC(es:List (a8×a8×Nat))(i:Nat)(v:a8):List (a8×a8×Nat):=
 match es,i with
 |[],_=>[]
 |e::es,0=>(e.1,v,e.2.2)::es
 |e::es,i+1=>e::uC es i v
def zeroV(P:Program)(t:TypeId):Option a8:=
 match P.info? t with
 |some i=>i.zero.map ofConst
 |none=>none
def Sc(P:Program)(t:TypeId)(x:a8)(z:Operand):Option Bool:=
 match z with
 |.const c=>
  match P.underlying t,x,c with
  |some (.interface _),.nl .nilIface,.nilIface=>some true
  |some (.pointer _),.nl (.pointer none),.pointer none=>some true
  |some (.pointer _),.ptr _ _,.pointer none=>some false
  |some (.func _ _ _),.nl .nilFunc,.nilFunc=>some true
  |some (.func _ _ _),.fn _ _,.nilFunc=>some false
  |some (.func _ _ _),.lR _ _,.nilFunc=>some false
  |some (.map _ _),.nl (.map none),.map none=>some true
  |some (.map _ _),.mp _,.map none=>some false
  |_,_,_=>none
 |_=>none
noncomputable def b7(P:Program)(nid:Nat)(o:Oper)(tm:List a8)(h:List (Nat×bT))(y:jG->Option aj):Option aj:=
 match o.op with
 |.move x|.assign x=>y {v:=bG tm x}
 |.pick c a b=>
  match bG tm c with
  |.bool t=>bif t then y {v:=bG tm a}else y {v:=bG tm b}
  |_=>none
 |.alloc t=>
  match rN P t with
  |some cs=>y {v:=.ptr nid 0,dv:=[(nid,some (.cells false cs))]}
  |none=>none
 |.box _ x=>if(bG tm x).laid then y {v:=.ptr nid 0,dv:=[(nid,some (.cells false (bG tm x).cells))]}else none
 |.build t parts=>
  match rN P t with
  |some cs=>
   if partsKnown P t then
    match ud (placeOf P t) cs (parts.toList.map λp=>(p.1,bG tm p.2))with
    |some ea=>y {v:=.agg ea}
    |none=>none
   else none
  |none=>none
 |.buildSlice t len parts=>
  match P.underlying t with
  |some (.slice e)=>
   if !p1 P e||(Nat.blt 1000 len||Nat.blt 1000 (P.cellsOf e))then none else
   match sU P e len with
   |some z=>
    match ud (λi=>some (i*P.cellsOf e,P.cellsOf e)) z (parts.toList.map λp=>(p.1,bG tm p.2))with
    |some cs=>y {v:=.bA nid 0 len len (P.cellsOf e),dv:=[(nid,some (.cells false cs))]}
    |none=>none
   |none=>none
  |_=>none
 |.load t a=>
  match bG tm a with
  |.ptr id off=>match rr h id with
   |some cs=>tI P t (cs.drop off) λv=>y {v,reads:=[id]}
   |none=>none
  |_=>none
 |.store t a x=>
  if(bG tm x).laid&&((bG tm x).cells.length==P.cellsOf t&&P.cellsOf t !=0)then
   match bG tm a with
   |.ptr id off=>match get h id with
    |some (.cells false cs)=>
     if Nat.ble (off+(bG tm x).cells.length) cs.length then
      y {v:=.undef,reads:=[id],dv:=[(id,some (.cells false (eM cs off (bG tm x).cells)))]}
     else none
    |_=>none
   |_=>none
  else none
 |.nilCheck x=>
  match bG tm x with
  |.ptr id off=>y {v:=.ptr id off}
  |.fn f cs=>y {v:=.fn f cs}
  |.lR f cs=>y {v:=.lR f cs}
  |.iq id=>y {v:=.iq id}
  |_=>none
 |.binOp op t x z _=>
  if Go.Ev.vx z then
   match P.underlying t,op,bG tm x with
   |some (.slice _),.eql,.bf=>y {v:=.bool true}
   |some (.slice _),.neq,.bf=>y {v:=.bool false}
   |some (.slice _),.eql,.bA .. =>y {v:=.bool false}
   |some (.slice _),.neq,.bA .. =>y {v:=.bool true}
   |_,_,_=>none
  else match Sc P t (bG tm x) z with
   |some b=>(match op with
    |.eql=>y {v:=.bool b}
    |.neq=>y {v:=.bool !b}
    |_=>none)
   |none=>evBin P op t (bG tm x).h3 (bG tm z).h3 λv=>match qQ v with
    |some m=>y {v:=m}
    |none=>none
 |.unOp op _ x=>
  match op,bG tm x with
  |.neg,.int gq n=>y {v:=.int gq (gq.wrap (0-n))}
  |.not,.bool b=>y {v:=.bool !b}
  |.xor,.int gq n=>y {v:=.int gq (gq.wrap (BitVec.ofInt gq.bits (if gq.signed then -1 else gq.max)^^^BitVec.ofInt gq.bits n).toNat)}
  |_,_=>none
 |.convert src dst x=>
  match P.underlying src,P.underlying dst,bG tm x with
  |some (.int _),some (.int gq),.int _ n=>y {v:=.int gq (gq.wrap n)}
  |some .string,some .string,.str s=>y {v:=.str s}
  |some .string,some (.slice e),.str s=>
   if Go.Ev.td P e&&(p1 P e&&Nat.beq (P.cellsOf e) 1)then
    (if lenB s.length then y {v:=.bA nid 0 s.length s.length 1,dv:=[(nid,some (.cells false (Dt s)))]}else none)
   else none
  |some (.slice e),some .string,.bf=>if Go.Ev.td P e then y {v:=.str []}else none
  |some (.slice e),some .string,.bA id off len cap wd=>
   if Go.Ev.td P e&&Nat.beq wd 1 then
    match tD h 1 (.bA id off len cap wd)with
    |some q=>match Du q.1 with
     |some s=>y {v:=.str s,reads:=q.2}
     |none=>none
    |none=>none
   else none
  |some (.slice e),some (.slice _),.bA id off len cap wd=>
   if Nat.beq src dst&&Go.Ev.td P e then
    match get h id with
    |some (.cells fV cs)=>y {v:=.bA id off len cap wd,reads:=[id],dv:=[(id,some (.cells fV cs))]}
    |_=>none
   else none
  |_,_,_=>none
 |.makeFunc (.func f) first captured=>if first.size=0 then y {v:=.fn f (iv tm captured.toList)}else if captured.size=0 then y {v:=.lR f (iv tm first.toList)}else none
 |.makeMap _ r=>
  match r with
  |none=>y {v:=.mp nid,dv:=[(nid,some (.map [] 0))]}
  |some _=>none
 |.makeSlice t l c=>
  match P.underlying t,bG tm l,bG tm c with
  |some (.slice e),.int .i64 n,.int .i64 m=>
   if p1 P e&&(decide (n<=m)&&(decide (0<=n)&&(decide (m<=100000)&&roomB m.toNat (P.bytesOf e))))then
    match sU P e m.toNat with
    |some z=>y {v:=.bA nid 0 n.toNat m.toNat (P.cellsOf e),dv:=[(nid,some (.cells false z))]}
    |none=>none
   else none
  |_,_,_=>none
 |.slice t x lo hi mx=>
  match P.underlying t,bG tm x with
  |some .string,.str s=>
   if mx.isNone then
    match jW 0 (lo.map (bG tm)),jW s.length (hi.map (bG tm))with
    |some l,some n=>bif slb l n s.length then y {v:=.str ((s.drop l.toNat).take (n.toNat-l.toNat))}else none
    |_,_=>none
   else none
  |some (.slice e),.bf=>
   match jW 0 (lo.map (bG tm)),jW 0 (hi.map (bG tm)),jW 0 (mx.map (bG tm))with
   |some l,some n,some m=>if(mx.isNone||hi.isSome)&&((l==0)&&((n==0)&&((m==0)&&(P.info? e).isSome)))then y {v:=.bf}else none
   |_,_,_=>none
  |some (.slice e),.bA id off len cap wd=>
   if !Nat.beq wd (P.cellsOf e)then none else
   match jW 0 (lo.map (bG tm)),jW len (hi.map (bG tm)),jW cap (mx.map (bG tm))with
   |some l,some n,some m=>if(mx.isNone||hi.isSome)&&(decide (0<=l)&&(decide (l<=n)&&(decide (n<=m)&&decide (m<=cap))))then
    y {v:=.bA id (off+l.toNat*wd) (n.toNat-l.toNat) (m.toNat-l.toNat) wd}else none
   |_,_,_=>none
  |some (.array k e),.ptr id off=>
   if Nat.beq (P.cellsOf e) 0 then none else
   match jW 0 (lo.map (bG tm)),jW k (hi.map (bG tm)),rr h id with
   |some l,some n,some cs=>if Nat.ble k 1000000&&(mx.isNone&&(decide (0<=l)&&(decide (l<=n)&&(decide (n<=k)&&Nat.ble (off+k*P.cellsOf e) cs.length))))then
    y {v:=.bA id (off+l.toNat*P.cellsOf e) (n.toNat-l.toNat) (k-l.toNat) (P.cellsOf e),reads:=[id]}else none
   |_,_,_=>none
  |_,_=>none
 |.fieldAddr t x f=>
  match fieldOf P t f with
  |some dB=>
   if P.cellsOf dB.type==0 then none else
   match bG tm x with
   |.ptr id off=>y {v:=.ptr id (off+dB.offset)}
   |_=>none
  |none=>none
 |.field t x f=>
  match fieldOf P t f with
  |some dB=>
   match bG tm x with
   |.agg cs=>tI P dB.type (cs.drop dB.offset) λv=>y {v}
   |_=>none
  |none=>none
 |.indexAddr t x i=>
  match bG tm i with
  |.int _ n=>
   match P.underlying t,bG tm x with
   |some (.slice e),.bA id off len _ wd=>if Nat.beq wd (P.cellsOf e)&&(P.info? e).isSome then(bif inb n len then y {v:=.ptr id (off+n.toNat*wd)}else none)else none
   |some (.array len e),.ptr id off=>if(P.info? e).isSome then(bif inb n len then y {v:=.ptr id (off+n.toNat*P.cellsOf e)}else none)else none
   |_,_=>none
  |_=>none
 |.index t x i=>
  match bG tm i with
  |.int _ n=>
   match P.underlying t,bG tm x with
   |some .string,.str s=>bif inb n s.length then y {v:=.int .u8 ((s.getD n.toNat 0).toNat)}else none
   |some (.array len e),.agg cs=>bif inb n len then tI P e (cs.drop (n.toNat*P.cellsOf e)) λv=>y {v}else none
   |_,_=>none
  |_=>none
 |.extract x i=>
  match bG tm x with
  |.tup vs=>match vs[i]?with
   |some v=>y {v}
   |none=>none
  |_=>none
 |.range t x=>
  match P.underlying t,bG tm x with
  |some .string,.str s=>y {v:=.it nid,dv:=[(nid,some (.iter s 0))]}
  |_,_=>none
 |.next x true=>
  match bG tm x with
  |.it id=>match get h id with
   |some (.iter s p)=>
    bif Nat.blt p s.length then y {v:=.tup [.bool true,.int .i64 p,.int .i32 (decA s p).1],reads:=[id],dv:=[(id,some (.iter s (p+(decA s p).2)))]}
    else y {v:=.tup [.bool false],reads:=[id]}
   |_=>none
  |_=>none
 |.lookup t x k ok=>
  match P.underlying t with
  |some (.map bE ey)=>
   if !yy P bE (bG tm k)then none else
   match bG tm x with
   |.mp id=>match get h id with
    |some (.map es _)=>
     match yz P bE (bG tm k) es 0,zeroV P ey with
     |some (some q),_=>y {v:=bif ok then .tup [q.2.1,.bool true]else q.2.1,reads:=[id]}
     |some none,some z=>y {v:=bif ok then .tup [z,.bool false]else z,reads:=[id]}
     |_,_=>none
    |_=>none
   |_=>none
  |_=>none
 |.mapUpdate t m k x=>
  match P.underlying t with
  |some (.map bE _)=>
   if !yy P bE (bG tm k)then none else
   match bG tm m with
   |.mp id=>match get h id with
    |some (.map es c)=>
     match yz P bE (bG tm k) es 0 with
     |some (some q)=>y {v:=.undef,reads:=[id],dv:=[(id,some (.map (uC es q.1 (bG tm x)) c))]}
     |some none=>y {v:=.undef,reads:=[id],dv:=[(id,some (.map (es++[(bG tm k,bG tm x,c)]) (c+1)))]}
     |none=>none
    |_=>none
   |_=>none
  |_=>none
 |.call {callee:=.builtin b,args,argTypes}=>Ct P nid b argTypes.toList (iv tm args.toList) h y
 |_=>none
open Go.RowKit
open Go.Ev (AV Sh Summ Env Ex nilB VRel VRels Kept Glb)
def Fj:∀(l:List a8)(n:Nat),nth l n=l.getD n .J
 |[],n=>by simp[nth]
 |a::l,0=>rfl
 |a::l,n+1=>by show nth l n=_;rw[Fj l n];simp
def put_eq(v:a8):∀(l:List a8)(n:Nat),put v l n=l.set n v
 |[],n=>by simp[put]
 |a::l,0=>rfl
 |a::l,n+1=>by show a::put v l n=_;rw[put_eq v l n];simp
theorem get_nil(id:Nat):get [] id=none:=rfl
theorem l9(a:Nat×bT)(h:List (Nat×bT))(id:Nat):get (a::h) id=if a.1=id then some a.2 else get h id:=by simp_all[get]
theorem auG(a:Nat×bT)(h:List (Nat×bT))(id:Nat):del (a::h) id=if a.1=id then del h id else a::del h id:=by simp_all[del]
theorem LI:∀(h:List (Nat×bT))(id i:Nat),get (del h id) i=if i=id then none else get h i
 |[],id,i=>by simp[del,get]
 |a::h,id,i=>by
  rw[auG];by_cases e:a.1=id
  .rw[dE e,LI h id i,l9];grind
  .rw[c0 e,l9,l9,LI h id i];grind
theorem lD(h:List (Nat×bT))(p:Nat×Option bT)(i:Nat):get (hV h p) i=if i=p.1 then p.2 else get h i:=by
 obtain⟨id,x⟩:=p;cases x with
 |none=>exact LI h id i
 |some o=>show get ((id,o)::del h id) i=_;rw[l9,LI];grind
structure nj where
 g:Nat
 fy:Nat
 kP:Nat
abbrev du:=Nat->Option nj
inductive cT(ax:du):a8->Value->Prop
 |J (v:Value):cT ax .J v
 |undef:cT ax .undef Go.undef
 |int (k:IntKind) (n:Int):cT ax (.int k n) (.int k n)
 |bool (b:Bool):cT ax (.bool b) (.bool b)
 |str (s:List UInt8):cT ax (.str s) (.string ⟨s.toArray⟩)
 |nl (v:Value) (h:nilB v=true):cT ax (.nl v) v
 |agg (cs:List a8) (vs:List Value) (ay:vs.length=cs.length) (af:∀u∈vs,u.oneCell'=true)
  (h:∀(j:Nat)(c:a8)(u:Value),cs[j]?=some c->vs[j]?=some u->cT ax c u):cT ax (.agg cs) (.agg vs.toArray)
 |tup (cs:List a8) (vs:List Value) (ay:vs.length=cs.length)
  (h:∀(j:Nat)(c:a8)(u:Value),cs[j]?=some c->vs[j]?=some u->cT ax c u):cT ax (.tup cs) (.tuple vs.toArray)
 |ptr (id off:Nat) (p:nj) (au:ax id=some p):cT ax (.ptr id off) (.pointer (some ⟨p.g,p.fy+off,none⟩))
 |bA (id off len cap wd:Nat) (p:nj) (o cap':Nat) (au:ax id=some p) (ay:len<=cap) (aa:cap<=cap') (hm:cap'<=maxLen) (aw:0<cap->o=p.fy+off) (an:p.fy<=o) (bp:o+cap'*wd<=p.kP) (hw:0<wd):
  cT ax (.bA id off len cap wd) (.slice (some ⟨p.g,o,none⟩) len cap')
 |bf:cT ax .bf (.slice none 0 0)
 |fn (f:Nat) (cs:List a8) (vs:List Value) (ay:vs.length=cs.length)
  (h:∀(j:Nat)(c:a8)(u:Value),cs[j]?=some c->vs[j]?=some u->cT ax c u):cT ax (.fn f cs) (.func (.func f) #[] vs.toArray)
 |lR (f:Nat) (cs:List a8) (vs:List Value) (ay:vs.length=cs.length)
  (h:∀(j:Nat)(c:a8)(u:Value),cs[j]?=some c->vs[j]?=some u->cT ax c u):cT ax (.lR f cs) (.func (.func f) vs.toArray #[])
 |mp (id:Nat) (p:nj) (au:ax id=some p):cT ax (.mp id) (.map (some p.g))
 |it (id:Nat) (p:nj) (au:ax id=some p):cT ax (.it id) (.pointer (some ⟨p.g,0,none⟩))
 |iq (id:Nat) (p:nj) (au:ax id=some p):cT ax (.iq id) (.func (.yield p.g) #[] #[])
def ck(ax:du)(cs:List a8)(vs:List Value):Prop:=vs.length=cs.length/\∀(j:Nat)(c:a8)(u:Value),cs[j]?=some c->vs[j]?=some u->cT ax c u
def Ext(ax cv:du):Prop:=∀id p,ax id=some p->cv id=some p
theorem Ext.refl(ax:du):Ext ax ax:=λ_ _ h=>h
def Ext.trans{ax cv aeG:du}(h:Ext ax cv)(h':Ext cv aeG):Ext ax aeG:=λid p au=>h' id p (h id p au)
def cT.mono{ax cv:du}{c:a8}(h:cT ax c v)(he:Ext ax cv):cT cv c v:=by
 induction h with
 |J v=>exact .J v
 |undef=>exact .undef
 |int k n=>exact .int k n
 |bool b=>exact .bool b
 |str s=>exact .str s
 |nl v h=>exact .nl v h
 |agg cs vs ay af _ ih=>exact .agg cs vs ay af λj c u aa hu=>ih j c u aa hu
 |tup cs vs ay _ ih=>exact .tup cs vs ay λj c u aa hu=>ih j c u aa hu
 |ptr id off p au=>exact .ptr id off p (he _ _ au)
 |bA id off len cap wd p o cap' au ay aa hm aw an bp hw=>exact .bA id off len cap wd p o cap' (he _ _ au) ay aa hm aw an bp hw
 |bf=>exact .bf
 |fn f cs vs ay _ ih=>exact .fn f cs vs ay λj c u aa hu=>ih j c u aa hu
 |lR f cs vs ay _ ih=>exact .lR f cs vs ay λj c u aa hu=>ih j c u aa hu
 |mp id p au=>exact .mp id p (he _ _ au)
 |it id p au=>exact .it id p (he _ _ au)
 |iq id p au=>exact .iq id p (he _ _ au)
def ck.mono{ax cv:du}{cs:List a8}(h:ck ax cs vs)(he:Ext ax cv):ck cv cs vs:=⟨h.1,λj c u aa hu=>(h.2 j c u aa hu).mono he⟩
theorem ck.nil{ax:du}:ck ax [] []:=⟨rfl,λj c u aa=>y2⟩
theorem ck.cons{ax:du}{c:a8}{cs:List a8}(h:cT ax c v)(an:ck ax cs vs):ck ax (c::cs) (v::vs):=by
 refine⟨by simp[an.1],λj x u ak hu=>?_⟩;cases j with
 |zero=>grind
 |succ j=>simp at ak hu;exact an.2 j x u ak hu
def ck.inv{ax:du}{c:a8}{cs:List a8}(h:ck ax (c::cs) vs):∃v fr,vs=v::fr/\cT ax c v/\ck ax cs fr:=by
 cases vs with
 |nil=>have:=h.1;simp at this
 |cons v fr=>exact⟨v,fr,rfl,h.2 0 c v rfl rfl,by have:=h.1;simpa using this,λj x u ak hu=>h.2 (j+1) x u G' yX⟩
def ck.gf{ax:du}(h:ck ax [] vs):vs=[]:=pn (by simpa using h.1)
theorem ck.append{ax:du}{cs ds:List a8}(h:ck ax cs vs)(h':ck ax ds us):ck ax (cs++ds) (vs++us):=by
 induction cs generalizing vs with
 |nil=>rw[h.gf];simpa using h'
 |cons c cs ih=>obtain⟨v,fr,rfl,ar,b6⟩:=h.inv;grind[ck.cons]
def ck.drop{ax:du}{cs:List a8}(h:ck ax cs vs)(n:Nat):ck ax (cs.drop n) (vs.drop n):=⟨y5,λj c u aa hu=>h.2 (n+j) c u wY yX⟩
def ck.take{ax:du}{cs:List a8}(h:ck ax cs vs)(n:Nat):ck ax (cs.take n) (vs.take n):=by
 refine⟨y5,λj c u aa hu=>?_⟩;rw[AX]at aa hu;split at aa
 .rename_i aP;rw[dE aP]at hu;exact h.2 j c u aa hu
 .cases aa
theorem ck.at_{ax:du}{cs:List a8}(h:ck ax cs vs){j:Nat}{c:a8}(aa:cs[j]?=some c):∃u,vs[j]?=some u/\cT ax c u:=by
 have aP:j<vs.length:=by rw[h.1];grind
 exact⟨vs[j],fC aP,h.2 j c _ aa (fC aP)⟩
theorem ck.set{ax:du}{cs:List a8}(h:ck ax cs vs)(d:Nat){v:a8}(ar:cT ax v u):ck ax (cs.set d v) (vs.set d u):=by
 refine⟨y5,λj c x aa ak=>?_⟩;rw[List.getElem?_set]at aa ak;by_cases e:d=j
 .grind
 .rw[c0 e]at aa ak;exact h.2 j c x aa ak
def cT.mS{ax:du}{cs:List a8}(h:cT ax (.agg cs) v):∃vs:List Value,v=.agg vs.toArray/\ck ax cs vs/\∀u∈vs,u.oneCell'=true:=by
 cases h with
 |agg _ vs ay af h=>exact⟨vs,rfl,⟨ay,h⟩,af⟩
def cT.auH{ax:du}{cs:List a8}(h:cT ax (.tup cs) v):∃vs:List Value,v=.tuple vs.toArray/\ck ax cs vs:=by
 cases h with
 |tup _ vs ay h=>exact⟨vs,rfl,ay,h⟩
theorem cT.oP{ax:du}{b:Bool}(h:cT ax (.bool b) v):v=.bool b:=y0
theorem cT.eT{ax:du}{k:IntKind}{n:Int}(h:cT ax (.int k n) v):v=.int k n:=y0
theorem cT.hO{ax:du}{s:List UInt8}(h:cT ax (.str s) v):v=.string ⟨s.toArray⟩:=y0
theorem cT.zY{ax:du}(h:cT ax .bf v):v=.slice none 0 0:=y0
theorem cT.laid{ax:du}{c:a8}(h:cT ax c v)(ag:c.laid=true):∃us:List Value,v.cells=us.toArray/\ck ax c.cells us/\∀u∈us,u.oneCell'=true:=by
 have one:∀(c:a8)(v:Value),c.cells=[c]->v.cells= #[v]->v.oneCell'=true->cT ax c v->
   ∃us:List Value,v.cells=us.toArray/\ck ax c.cells us/\∀u∈us,u.oneCell'=true:=λc v aa ar af h=>
  ⟨[v],by simp[ar],by grind[ck.cons,ck.nil],s5⟩
 cases h with
 |J v=>simp[a8.laid]at ag
 |undef=>simp[a8.laid]at ag
 |int k n=>exact one _ _ rfl rfl rfl (.int k n)
 |bool b=>exact one _ _ rfl rfl rfl (.bool b)
 |str s=>exact one _ _ rfl rfl rfl (.str s)
 |nl v h=>exact one _ _ rfl GX GX (.nl v h)
 |agg cs vs ay af h=>exact⟨vs,rfl,⟨ay,h⟩,af⟩
 |tup cs vs ay h=>simp[a8.laid]at ag
 |ptr id off p au=>exact one _ _ rfl rfl rfl (.ptr id off p au)
 |bA id off len cap wd p o cap' au ay aa hm aw an bp hw=>exact one _ _ rfl rfl rfl (.bA id off len cap wd p o cap' au ay aa hm aw an bp hw)
 |bf=>exact one _ _ rfl rfl rfl .bf
 |fn f cs vs ay h=>exact one _ _ rfl rfl rfl (.fn f cs vs ay h)
 |lR f cs vs ay h=>exact one _ _ rfl rfl rfl (.lR f cs vs ay h)
 |mp id p au=>exact one _ _ rfl rfl rfl (.mp id p au)
 |it id p au=>exact one _ _ rfl rfl rfl (.it id p au)
 |iq id p au=>exact one _ _ rfl rfl rfl (.iq id p au)
theorem Ew{ax:du}(v:Value):cT ax (p' v) v:=by
 unfold p';split
 .exact .int _ _
 .exact .bool _
 .rename_i s;exact .str s.data.toList
 .exact .bf
 .split
  .rename_i h;exact .nl _ h
  .exact .J _
theorem Sd{ax:du}(v:Value):cT ax (ofConst v) v:=by
 unfold ofConst;split
 .rename_i cs;split
  .rename_i h;have af:∀u∈cs.toList,u.oneCell'=true:=λu hu=>ec.1 h u hu;have:=cT.agg (ax:=ax) (cs.toList.map p') cs.toList bb af λj c u aa hu=>by grind[Ew]
   simpa using this
  .exact .J _
 .rename_i vs;split
  .rename_i h;have:vs= #[]:=L7.1 h;subst this;exact .undef
  .exact .J _
 .exact Ew v
theorem xA{ax:du}{tm:List a8}{tmps:Array Value}(h:ck ax tm tmps.toList)(n:Nat):cT ax (nth tm n) (tmps.getD n undef):=by
 rw[Fj];cases aQ:tm[n]?with
 |none=>simp only[List.getD,aQ,Option.getD_none];exact .J _
 |some c=>obtain⟨u,hu,aD⟩:=h.at_ aQ;simp_all
def e0{ax:du}{tm:List a8}{a:Act}(h:ck ax tm a.tmps.toList)(x:Operand):cT ax (bG tm x) (a.eval x):=by
 cases x with
 |tmp t=>exact xA h t
 |const v=>exact Sd v
 |func f=>exact .fn f [] [] rfl λj c u aa=>y2
 |global g=>exact .J _
def wb{ax:du}{tm:List a8}{a:Act}(h:ck ax tm a.tmps.toList):∀(xs:List Operand),ck ax (iv tm xs) (xs.map a.eval)
 |[]=>ck.nil
 |x::xs=>ck.cons (e0 h x) (wb h xs)
def He:∀cs:List a8,(a8.aA cs).length=cs.length
 |[]=>rfl
 |c::cs=>by simp[a8.aA,He cs]
theorem Ch:∀(cs:List a8)(j:Nat)(c:AV),(a8.aA cs)[j]?=some c->∃m,cs[j]?=some m/\c=m.h3
 |[],j,c,h=>by simp[a8.aA]at h
 |x::cs,0,c,h=>by grind[a8.aA]
 |x::cs,j+1,c,h=>by simp only[a8.aA,L1]at h;obtain⟨m,af,ao⟩:=Ch cs j c h;grind
theorem cT.h3{ax:du}{m:a8}(h:cT ax m v)(w:World)(S:Nat->Prop)(β:Go.Ev.cD):VRel w S β m.h3 v:=by
 induction h with
 |J v=>exact .J _ _
 |undef=>exact .undef _
 |int k n=>exact .int _ k n
 |bool b=>exact .bool _ b
 |str s=>exact .str _ s
 |nl v h=>exact .nl _ v h
 |agg cs vs ay af _ ih=>refine .agg _ _ vs Mk af λj c u aa hu=>?_;grind[Ch]
 |tup cs vs ay _ ih=>refine .tup _ _ vs Mk λj c u aa hu=>?_;grind[Ch]
 |ptr id off p au=>exact .J _ _
 |bA id off len cap wd p o cap' au ay aa hm aw an bp hw=>exact .J _ _
 |bf=>exact .J _ _
 |fn f cs vs ay _ ih=>refine .fn _ f _ vs Mk λj c u aa hu=>?_;grind[Ch]
 |lR f cs vs ay _ ih=>exact .J _ _
 |mp id p au=>exact .J _ _
 |it id p au=>exact .J _ _
 |iq id p au=>exact .J _ _
theorem ck.aA{ax:du}{cs:List a8}(h:ck ax cs vs)(w:World)(S:Nat->Prop)(β:Go.Ev.cD):VRels w S β (a8.aA cs) vs:=⟨by rw[He];exact h.1,λj c u aa hu=>by obtain⟨m,hm,rfl⟩:=Ch cs j c aa;exact(h.2 j m u hm hu).h3 w S β⟩
theorem Se:∀(cs:List AV)(ms:List a8),Ds cs=some ms->ms.length=cs.length/\∀(j:Nat)(m:a8),ms[j]?=some m->∃c,cs[j]?=some c/\qQ c=some m
 |[],ms,h=>by grind[Ds]
 |c::cs,ms,h=>by
  simp only[Ds]at h;split at h
  .cases h
  .rename_i m hm;split at h
   .rename_i l ay;cases h;obtain⟨af,ao⟩:=Se cs l ay;grind
   .cases h
theorem O6{ax:du}{S:Nat->Prop}{β:Go.Ev.cD}{c:AV}(h:VRel w S β c v):∀{m:a8},qQ c=some m->cT ax m v:=by
 induction h with
 |undef=>intro m e;simp[qQ]at e;subst e;exact .undef
 |int β k n=>intro m e;simp[qQ]at e;subst e;exact .int k n
 |bool β b=>intro m e;simp[qQ]at e;subst e;exact .bool b
 |str β s=>intro m e;simp[qQ]at e;subst e;exact .str s
 |agg β cs vs ay af _ ih=>
  intro m e;simp only[qQ]at e;split at e
  .rename_i l kr;cases e;obtain⟨aU,bc⟩:=Se cs l kr;refine .agg l vs (by rw[aU];exact ay) af λj x u ak hu=>?_;grind
  .cases e
 |tup β cs vs ay _ ih=>
  intro m e;simp only[qQ]at e;split at e
  .rename_i l kr;cases e;obtain⟨aU,bc⟩:=Se cs l kr;refine .tup l vs (by rw[aU];exact ay) λj x u ak hu=>?_;grind
  .cases e
 |_=>intro m e;simp[qQ]at e
def oI(ax:du):List (a8×a8×Nat)->List MapEntry->Prop
 |[],[]=>True
 |e::es,x::xs=>cT ax e.1 x.key/\cT ax e.2.1 x.val/\x.born=e.2.2/\oI ax es xs
 |_,_=>False
def yA(w:World)(ax:du)(p:nj):bT->Prop
 |.cells fV cs=>∃(arr:List Value)(t:TypeId)(fz:Nat×Nat),w.heap[p.g]?=some (.cells arr.toArray t fz)/\arr.length=p.kP/\(fV=false->fz=(0,0)\/fz=(arr.length,arr.length+1))/\p.fy+cs.length<=p.kP/\
  (∀u∈arr,u.oneCell'=true)/\ck ax cs ((arr.drop p.fy).take cs.length)
 |.map es clock=>∃xs:List MapEntry,w.heap[p.g]?=some (.map xs.toArray clock)/\oI ax es xs
 |.iter s pos=>w.heap[p.g]?=some (.stringIter ⟨s.toArray⟩ pos)
 |.loop busy tm bj assign body=>∃(r:Go.Loop),w.heap[p.g]?=some (.loop r)/\r.state=(bif busy then .busy else .ready)/\r.pending=none/\r.params=bj/\r.assign=assign/\r.body=body/\ck ax tm r.tmps.toList
def oI.mono{ax cv:du}(he:Ext ax cv):∀{es:List (a8×a8×Nat)}{xs:List MapEntry},oI ax es xs->oI cv es xs
 |[],[],_=>trivial
 |_::_,_::_,h=>⟨h.1.mono he,h.2.1.mono he,h.2.2.1,oI.mono he h.2.2.2⟩
 |[],_::_,h=>h.elim
 |_::_,[],h=>h.elim
def yA.gJ{ax cv:du}{p:nj}{o:bT}(h:yA w ax p o)(he:Ext ax cv)(hw:w'.heap[p.g]?=w.heap[p.g]?):yA w' cv p o:=by
 cases o with
 |cells fV cs=>obtain⟨arr,t,fz,af,ao,a1,ca,dA,gB⟩:=h;exact⟨arr,t,fz,hw.trans af,ao,a1,ca,dA,gB.mono he⟩
 |map es clock=>obtain⟨xs,af,ao⟩:=h;exact⟨xs,hw.trans af,ao.mono he⟩
 |iter s pos=>exact hw.trans h
 |loop busy tm bj assign body=>obtain⟨r,af,ao,a1,ca,dA,gB,pO⟩:=h;exact⟨r,hw.trans af,ao,a1,ca,dA,gB,pO.mono he⟩
structure bU(B:Nat->Prop)(w0 w:World)(df:List Deferred)(ax:du)(st:dG)(a:Act):Prop where
 tm:ck ax st.tm a.tmps.toList
 df:a.defers=df
 obj:∀id o,get st.h id=some o->∃p,ax id=some p/\yA w ax p o/\¬B p.g
 inj:∀id eg o o' p fk,get st.h id=some o->get st.h eg=some o'->ax id=some p->ax eg=some fk->p.g=fk.g->id=eg
 lt:∀id p,ax id=some p->p.g<w.heap.size
 nx:∀id p,ax id=some p->id<st.nx
 kept:Kept B w0 w
 ble:∀b,B b->b<w.heap.size
 js:Glb B w0
open Go.Ev (AV Sh Summ Env Ex nilB VRel VRels Kept Glb isAggT placeOf partsKnown fieldOf evBin shOf depth roomB lenB inb slb decA minInt maxInt)
section mem
variable{P:Program}{B:Nat->Prop}{w0 w:World}{df:List Deferred}{ax:du}{st:dG}{a:Act}
def jI(ax:du)(id:Nat)(p:nj):du:=λi=>if i=id then some p else ax i
theorem tH(ax:du)(id:Nat)(p:nj):jI ax id p id=some p:=by simp[jI]
theorem qA(ax:du){id i:Nat}(p:nj)(h:i≠id):jI ax id p i=ax i:=by simp[jI,h]
theorem su{id:Nat}(p:nj)(h:ax id=none):Ext ax (jI ax id p):=λi q aH=>by grind[qA]
theorem bU.put(h:bU B w0 w df ax st a){id:Nat}{p:nj}{o:bT}(hid:ax id=none)(aL:id<st.nx)(ai:Kept B w w')
  (LJ:∀i x q,get st.h i=some x->ax i=some q->w'.heap[q.g]?=w.heap[q.g]?/\q.g≠p.g)(au:¬B p.g)(rl:p.g<w'.heap.size)(aw:yA w' (jI ax id p) p o):
  bU B w0 w' df (jI ax id p) ⟨st.tm,hV st.h (id,some o),st.nx⟩ a:=by
 have he:=su p hid
 have bO:∀{i q},ax i=some q->i≠id:=λ{i q} aH e=>bM
 have hold:∀{i x},get (hV st.h (id,some o)) i=some x->i≠id->get st.h i=some x:=λ{i x} ak hi=>by simp_all[lD,c0]
 refine⟨h.tm.mono he,h.df,λi x ak=>?_,λi fG x gH q mo ak kI aH ma aB=>?_,λi q aH=>?_,λi q aH=>?_,h.kept.trans ai,λb ag=>jK (h.ble b ag) ai.size,h.js⟩
 .by_cases e:i=id
  .simp_all[lD,dE,tH]
  .obtain⟨q,aH,kI,aB⟩:=h.obj i x (hold ak e);exact⟨q,by grind[qA],kI.gJ he (LJ i x q (hold ak e) aH).1,aB⟩
 .by_cases e:i=id<;>by_cases e':fG=id
  .rw[e,e']
  .grind[tH,qA,absurd]
  .grind[tH,qA,absurd]
  .rw[qA _ _ e]at aH;rw[qA _ _ e']at ma;exact h.inj i fG x gH q mo (hold ak e) (hold kI e') aH ma aB
 .by_cases e:i=id
  .grind[tH]
  .rw[qA _ _ e]at aH;exact jK (h.lt i q aH) ai.size
 .by_cases e:i=id
  .subst e;exact aL
  .rw[qA _ _ e]at aH;exact h.nx i q aH
def bU.new(h:bU B w0 w df ax st a){id:Nat}{p:nj}{o:bT}(hid:ax id=none)(aL:id<st.nx)(ag:Below w.heap.size w w')(au:w.heap.size<=p.g)(rl:p.g<w'.heap.size)(aw:yA w' (jI ax id p) p o):
  bU B w0 w' df (jI ax id p) ⟨st.tm,hV st.h (id,some o),st.nx⟩ a:=
 h.put hid aL (Kept.xz ag h.ble) (λi x q _ aH=>⟨ag.block _ (h.lt i q aH),λe=>by have:=h.lt i q aH;omega⟩) (λdy=>by have:=h.ble _ dy;omega) rl aw
theorem bU.mod(h:bU B w0 w df ax st a){id:Nat}{p:nj}{o o':bT}(aB:get st.h id=some o)(au:ax id=some p)(hw:w.grownBy w' (some p.g))(aw:yA w' ax p o'):
  bU B w0 w' df ax ⟨st.tm,hV st.h (id,some o'),st.nx⟩ a:=by
 obtain⟨fk,hJ,_,auI⟩:=h.obj id o aB
 rw[au]at hJ
 cases hJ
 have hold:∀{i x},get (hV st.h (id,some o')) i=some x->i≠id->get st.h i=some x:=λ{i x} ak hi=>by simp_all[lD,c0]
 have LJ:∀{i x},get (hV st.h (id,some o')) i=some x->∃gH,get st.h i=some gH:=λ{i x} ak=>bM
 refine⟨h.tm,h.df,λi x ak=>?_,λi fG x gH q mo ak kI aH ma tq=>?_,λi q aH=>jK (h.lt i q aH) hw.size,h.nx,h.kept.trans (Kept.H4 hw h.ble λk ai=>by cases ai;exact auI),λb ag=>jK (h.ble b ag) hw.size,h.js⟩
 .by_cases e:i=id
  .simp_all[lD,dE]
  .obtain⟨q,aH,kI,dK⟩:=h.obj i x (hold ak e);refine⟨q,aH,kI.gJ (Ext.refl _) (hw.block _ (h.lt i q aH) λbc=>e ?_),dK⟩;exact h.inj i id x o q p (hold ak e) aB aH au (by simpa using bc)
 .obtain⟨y,aN⟩:=LJ ak;obtain⟨auJ,EO⟩:=LJ kI;exact h.inj i fG y auJ q mo aN EO aH ma tq
theorem bU.kill(h:bU B w0 w df ax st a)(id:Nat):bU B w0 w df ax ⟨st.tm,hV st.h (id,none),st.nx⟩ a:=by
 have hold:∀{i x},get (hV st.h (id,none)) i=some x->get st.h i=some x:=λ{i x} ak=>by grind[lD]
 exact⟨h.tm,h.df,λi x ak=>h.obj i x (hold ak),λi fG x gH q mo ak kI=>h.inj i fG x gH q mo (hold ak) (hold kI),h.lt,h.nx,h.kept,h.ble,h.js⟩
theorem auK{h:List (Nat×bT)}{id i:Nat}{x:bT}(ak:get (hV h (id,none)) i=some x):i≠id/\get h i=some x:=by grind[lD]
theorem bU.cells(h:bU B w0 w df ax st a){id:Nat}{fV:Bool}{cs:List a8}(aB:get st.h id=some (.cells fV cs)){p:nj}(au:ax id=some p):
  ∃(arr:List Value)(t:TypeId)(fz:Nat×Nat),w.heap[p.g]?=some (.cells arr.toArray t fz)/\arr.length=p.kP/\(fV=false->fz=(0,0)\/fz=(arr.length,arr.length+1))/\p.fy+cs.length<=p.kP/\
   (∀u∈arr,u.oneCell'=true)/\ck ax cs ((arr.drop p.fy).take cs.length):=by
 obtain⟨fk,hJ,aw,_⟩:=h.obj id _ aB
 rw[au]at hJ
 cases hJ
 exact aw
theorem auL{g:Nat}{arr:List Value}{fz:Nat×Nat}(h:w.heap[g]?=some (.cells arr.toArray t fz))(j:Nat):w.cell? ⟨g,j,none⟩=arr[j]?:=by simp[World.cell?,h]
theorem Jd{g:Nat}{arr:List Value}{fz:Nat×Nat}(h:w.heap[g]?=some (.cells arr.toArray t fz))(o n:Nat)(j:Nat)(u:Value)(hu:((arr.drop o).take n)[j]?=some u):w.cell? ((⟨g,o,none⟩:Addr).add j)=some u:=by grind[Go.Ev.hd,auL]
theorem aeH{α:Type}(l:List α)(s n o m:Nat)(h:o+m<=n):(((l.drop s).take n).drop o).take m=(l.drop (s+o)).take m:=by grind[List.drop_take,List.drop_drop,Nat.min_eq_left]
def auM(P:Program)(o:Oper)(a:Act)(w:World)(u:Value)(w':World):Prop:=(execOp a.eval o).run P w=.ok (.value u) w'\/((execOp a.eval o).run P w=.ok .skip w'/\u=undef)
def ez(P:Program)(B:Nat->Prop)(w0 w:World)(df:List Deferred)(ax:du)(st:dG)(a:Act)(o:Oper)(nid:Nat)(e:jG):Prop:=∃u w' cv,auM P o a w u w'/\Ext ax cv/\(∀i,i≠nid->cv i=ax i)/\cT cv e.v u/\bU B w0 w' df cv ⟨st.tm,e.dv.foldl hV st.h,st.nx⟩ a
end mem
section ops
variable{aj:Type}{P:Program}{B:Nat->Prop}{w0 w:World}{df:List Deferred}{ax:du}{st:dG}{a:Act}{o:Oper}{nid:Nat}{y:jG->Option aj}{r:aj}
def calm(ah:bU B w0 w df ax st a){v:a8}{rs:List Nat}(ar:cT ax v u)(bu:(execOp a.eval o).run P w=.ok (.value u) w):ez P B w0 w df ax st a o nid {v:=v,reads:=rs,dv:=[]}:=⟨u,w,ax,.inl bu,Ext.refl _,λ_ _=>rfl,ar,ah⟩
theorem Ez(ah:bU B w0 w df ax st a)(aw:o.op=.move x\/o.op=.assign x):ez P B w0 w df ax st a o nid {v:=bG st.tm x}:=calm ah (e0 ah.tm x) (by rcases aw with aw|aw<;>simp[execOp,aw])
theorem Nw(ah:bU B w0 w df ax st a){c z:Operand}{t:Bool}(aw:o.op=.pick c x z)(aa:bG st.tm c=.bool t):ez P B w0 w df ax st a o nid {v:=bif t then bG st.tm x else bG st.tm z}:=by
 have o1:=e0 ah.tm c;rw[aa]at o1;have awB:=o1.oP;cases t with
 |true=>exact calm ah (e0 ah.tm x) (by simp_all[execOp,asBool])
 |false=>exact calm ah (e0 ah.tm z) (by simp_all[execOp,asBool])
theorem auN{cs:List a8}(h:rN P t=some cs):∃i v,P.info? t=some i/\i.zero=some v/\(ofConst v).laid=true/\cs=(ofConst v).cells:=by grind[rN]
theorem Sf{ax:du}{cs:List a8}(h:rN P t=some cs):∃i v us,P.info? t=some i/\i.zero=some v/\v.cells=us.toArray/\ck ax cs us/\∀u∈us,u.oneCell'=true:=by obtain⟨i,v,hi,ar,ay,rfl⟩:=auN h;obtain⟨us,af,ao,a1⟩:=(Sd (ax:=ax) v).laid ay;grind
def auO{cv:du}{g:Nat}{cs:List a8}(aB:w'.heap[g]?=some (.cells us.toArray t (0,0)))(h:ck cv cs us)(af:∀u∈us,u.oneCell'=true):yA w' cv ⟨g,0,us.length⟩ (.cells false cs):=⟨us,t,_,aB,rfl,λ_=>.inl rfl,y5,af,by simpa[<-h.1]using h⟩
def Ey(ah:bU B w0 w df ax st a)(aJ:ax nid=none)(aL:nid<st.nx){cs:List a8}(ar:ck ax cs us)(af:∀u∈us,u.oneCell'=true)
  (bu:(execOp a.eval o).run P w=.ok (.value (.pointer (some ⟨w.heap.size,0,none⟩))) (w.alloc (.cells us.toArray t))):ez P B w0 w df ax st a o nid {v:=.ptr nid 0,dv:=[(nid,some (.cells false cs))]}:=by
 have ag:=Go.Ev.r9 w (.cells us.toArray t)
 refine⟨_,_,jI ax nid ⟨w.heap.size,0,us.length⟩,.inl bu,su _ aJ,λi hi=>qA _ _ hi,.ptr nid 0 _ (tH _ _ _),?_⟩
 refine ah.new aJ aL ag (dc _) bb (auO (t:=t) ?_ (ar.mono (su _ aJ)) af)
 exact World.alloc_heap_new w _
theorem Nx(ah:bU B w0 w df ax st a)(aJ:ax nid=none)(aL:nid<st.nx)(aw:o.op=.alloc t){cs:List a8}(bp:rN P t=some cs):ez P B w0 w df ax st a o nid {v:=.ptr nid 0,dv:=[(nid,some (.cells false cs))]}:=by obtain⟨i,v,us,hi,ar,o2,e6,af⟩:=Sf (ax:=ax) bp;exact Ey ah aJ aL (t:=t) e6 af (by simp_all[execOp,Instr.alloc,zeroValue,typeInfo,newVar,newRow])
theorem Ny(ah:bU B w0 w df ax st a)(aJ:ax nid=none)(aL:nid<st.nx)(aw:o.op=.box t x)(ay:(bG st.tm x).laid=true):ez P B w0 w df ax st a o nid {v:=.ptr nid 0,dv:=[(nid,some (.cells false (bG st.tm x).cells))]}:=by obtain⟨us,o2,e6,af⟩:=(e0 ah.tm x).laid ay;exact Ey ah aJ aL (t:=t) e6 af (by simp_all[execOp,Instr.box,newVar,newRow])
theorem Nz(ah:bU B w0 w df ax st a){i:Nat}{vs:List a8}{v:a8}(aw:o.op=.extract x i)(ak:bG st.tm x=.tup vs)(ar:vs[i]?=some v):ez P B w0 w df ax st a o nid {v:=v}:=by have h:=e0 ah.tm x;rw[ak]at h;obtain⟨us,hu,e6⟩:=h.auH;obtain⟨u,awC,aD⟩:=e6.at_ ar;exact calm ah aD (by simp_all[execOp,Instr.extract])
theorem NA(ah:bU B w0 w df ax st a)(aw:o.op=.nilCheck x)(ak:(∃id off,bG st.tm x=.ptr id off)\/(∃f cs,bG st.tm x=.fn f cs)\/(∃id,bG st.tm x=.iq id)\/∃f cs,bG st.tm x=.lR f cs):ez P B w0 w df ax st a o nid {v:=bG st.tm x}:=by have h:=e0 ah.tm x;refine calm ah h ?_;generalize he:a.eval x=u at h;rcases ak with⟨id,off,e⟩|⟨f,cs,e⟩|⟨id,e⟩|⟨f,cs,e⟩<;>rw[e]at h<;>cases h<;>simp[execOp,aw,he]
theorem NB(ah:bU B w0 w df ax st a){f:Nat}{first:Array Operand}(aw:o.op=.makeFunc (.func f) first captured)(aR:first.size=0):ez P B w0 w df ax st a o nid {v:=.fn f (iv st.tm captured.toList)}:=by
 have h:=wb ah.tm captured.toList;have a7:first= #[]:=L7.1 aR
 refine calm (u:=.func (.func f) #[] (captured.map a.eval)) ah ?_ (by simp_all[execOp,Instr.makeFunc]);have:=cT.fn (ax:=ax) f _ _ h.1 h.2;have e:(captured.toList.map a.eval).toArray=captured.map a.eval:=ml;rwa[e]at this
theorem auP(ah:bU B w0 w df ax st a){f:Nat}{first:Array Operand}(aw:o.op=.makeFunc (.func f) first captured)(aR:captured.size=0):ez P B w0 w df ax st a o nid {v:=.lR f (iv st.tm first.toList)}:=by have h:=wb ah.tm first.toList;have a7:captured= #[]:=L7.1 aR;refine calm (u:=.func (.func f) (first.map a.eval) #[]) ah ?_ (by simp_all[execOp,Instr.makeFunc]);have:=cT.lR (ax:=ax) f _ _ h.1 h.2;have e:(first.toList.map a.eval).toArray=first.map a.eval:=ml;rwa[e]at this
def Cq{id:Nat}(h:cT ax (.ptr id off) u):∃p,ax id=some p/\u=.pointer (some ⟨p.g,p.fy+off,none⟩):=by
 cases h with
 |ptr _ _ p au=>exact⟨p,au,rfl⟩
theorem BY(ah:bU B w0 w df ax st a){f:Nat}{dB:Field}(aw:o.op=.fieldAddr t x f)(fU:fieldOf P t f=some dB)(bp:P.cellsOf dB.type≠0){id:Nat}(ak:bG st.tm x=.ptr id off):ez P B w0 w df ax st a o nid {v:=.ptr id (off+dB.offset)}:=by
 obtain⟨aC,nC,qv⟩:=Go.Ev.Ia fU;obtain⟨i,hi,an⟩:=Go.Ev.xB bp;have h:=e0 ah.tm x;rw[ak]at h;obtain⟨p,au,hu⟩:=Cq h;have ajo:i.size≠0:=by rw[an];exact bp
 refine calm ah (.ptr id (off+dB.offset) p au) ?_;simp_all[execOp,Instr.fieldAt,cA,Instr.sureAddr,fieldPlace,sizeOf,typeInfo,Go.Ev.hd,uf]
theorem auQ(ah:bU B w0 w df ax st a){e:TypeId}{i:Operand}{id len cap wd:Nat}{k:IntKind}{n:Int}(aw:o.op=.indexAddr t x i)(aQ:P.underlying t=some (.slice e))(ak:bG st.tm x=.bA id off len cap wd)(hi:bG st.tm i=.int k n)
  (o7:wd=P.cellsOf e)(dt:(P.info? e).isSome=true)(ag:inb n len=true):ez P B w0 w df ax st a o nid {v:=.ptr id (off+n.toNat*wd)}:=by
 obtain⟨a7,af,ao⟩:=Go.Ev.qq ag
 have h:=e0 ah.tm x
 rw[ak]at h
 have Gx:=e0 ah.tm i
 rw[hi]at Gx
 obtain⟨ii,iF⟩:=mj.1 dt
 have cx:ii.size=wd:=by rw[o7];unfold Program.cellsOf;simp[iF]
 generalize he:a.eval x=u at h
 cases h with
 |bA _ _ _ _ _ p o' cap' au ay aa hm hb an bp hw=>
  have ue:=hb al
  refine calm ah (.ptr id (off+n.toNat*wd) p au) ?_
  simp[execOp,aw,Instr.indexAt,he,Gx.eT,asIntOf,cA aQ,a7,af,sizeOf,typeInfo,iF,cx,Go.Ev.hd,ue,uf]
theorem NQ(ah:bU B w0 w df ax st a){e:TypeId}{i:Operand}{id len:Nat}{k:IntKind}{n:Int}(aw:o.op=.indexAddr t x i)(aQ:P.underlying t=some (.array len e))(ak:bG st.tm x=.ptr id off)(hi:bG st.tm i=.int k n)
  (dt:(P.info? e).isSome=true)(ag:inb n len=true):ez P B w0 w df ax st a o nid {v:=.ptr id (off+n.toNat*P.cellsOf e)}:=by
 obtain⟨a7,af,ao⟩:=Go.Ev.qq ag
 have h:=e0 ah.tm x
 rw[ak]at h
 have Gx:=e0 ah.tm i
 rw[hi]at Gx
 obtain⟨ii,iF⟩:=mj.1 dt
 have cx:ii.size=P.cellsOf e:=by unfold Program.cellsOf;simp[iF]
 obtain⟨p,au,hu⟩:=Cq h
 refine calm ah (.ptr id (off+n.toNat*P.cellsOf e) p au) ?_
 simp[execOp,aw,Instr.indexAt,hu,Gx.eT,asIntOf,cA aQ,a7,af,sizeOf,typeInfo,iF,cx,Go.Ev.hd,Instr.sureAddr,uf]
theorem Jc{cs:List a8}{z:a8->Option aj}(h:tI P t cs z=some r){xs:List Value}(ar:ck ax cs xs)(af:∀u∈xs,u.oneCell'=true):
  ∃v u,z v=some r/\cT ax v u/\(isAggT P t=true/\P.cellsOf t<=xs.length/\u=.agg (xs.take (P.cellsOf t)).toArray\/isAggT P t=false/\(P.underlying t).isSome=true/\∃xs',xs=u::xs'):=by
 unfold tI at h
 split at h
 .rename_i cI;split at h
  .rename_i hle;have p8:=kA hle;have aQ:=ar.take (P.cellsOf t);exact⟨_,_,h,.agg _ _ aQ.1 (λu hu=>af u (lr hu)) aQ.2,.inl ⟨cI,by rw[ar.1];exact p8,rfl⟩⟩
  .cases h
 .rename_i cI;split at h
  .rename_i an;split at h
   .rename_i c ea;obtain⟨u,us,rfl,hu,_⟩:=ar.inv;grind
   .cases h
  .cases h
theorem Xd{xs:List Value}(h:isAggT P t=true/\P.cellsOf t<=xs.length/\u=.agg (xs.take (P.cellsOf t)).toArray\/isAggT P t=false/\(P.underlying t).isSome=true/\∃xs',xs=u::xs'){ad:Addr}
  (ak:∀(j:Nat)(u:Value),xs[j]?=some u->w.cell? (ad.add j)=some u):(loadVar t ad).run P w=.ok u w:=by
 rcases h with⟨cI,hle,rfl⟩|⟨cI,an,xs',rfl⟩
 .obtain⟨d,aX⟩:=Go.Ev.EA cI;obtain⟨i,hi,cx⟩:=Go.Ev.zt aX;have ay:=Go.Ev.UW (P:=P) w ad xs (P.cellsOf t) hle ak;simp_all[loadVar,iL,Go.Ev.pC,jX,kn,sizeOf,typeInfo,vk,lW]
 .obtain⟨d,aX⟩:=mj.1 an;have a7:=ak 0 u rfl;grind[Addr.add,loadVar,Sem.run_bind,Go.Ev.pC,Result.andThen_ok,run_load]
theorem ND(ah:bU B w0 w df ax st a)(aw:o.op=.load t x){id:Nat}(ak:bG st.tm x=.ptr id off){cs:List a8}(aa:rr st.h id=some cs)(h:tI P t (cs.drop off) (λv=>y {v,reads:=[id]})=some r):
  ∃e,y e=some r/\ez P B w0 w df ax st a o nid e:=by
 have ar:=e0 ah.tm x
 rw[ak]at ar
 obtain⟨p,au,hu⟩:=Cq ar
 have aB:∃fV,get st.h id=some (.cells fV cs):=by
  unfold rr at aa;split at aa
  .rename_i f c aB;cases aa;exact⟨f,aB⟩
  .cases aa
 obtain⟨fV,aB⟩:=aB
 obtain⟨arr,kb,fz,hh,cx,gV,hle,af,b6⟩:=ah.cells aB au
 obtain⟨v,u,aN,jt,e2⟩:=Jc h (b6.drop off) (λu hu=>af u (jx (lr (jx hu))))
 refine⟨_,aN,calm ah jt ?_⟩
 have bu:=Xd (P:=P) (w:=w) e2 (ad:=⟨p.g,p.fy+off,none⟩) λj u aP=>by grind[List.drop_take,List.drop_drop,Jd]
 simp_all[execOp,Instr.loadAt,Instr.sureAddr]
end ops
end Go.Mi
