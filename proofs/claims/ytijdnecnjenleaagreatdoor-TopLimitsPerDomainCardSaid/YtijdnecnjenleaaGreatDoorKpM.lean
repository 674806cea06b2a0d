/-
  The document's domain of an address.
-/
import Derived.Test.YtijdnecnjenleaaGreatDoorKpD
set_option linter.all false
namespace Go.Proofs.YtijdnecnjenleaaGreatDoor
open IntKind
open Go.Ev
open Tryz
variable{es:List AV}
def eS(e:AV):List UInt8:=(e.cells.headD .J).toStr
def fa(e:AV):List UInt8:=(e.cells.tail.headD .J).toStr
def okF(e:AV):Bool:=small (eS e).length&&small (fa e).length
noncomputable def JU:Env:={pure:=[(173,aK JT),(27,jc prog mC [] Tryz.f27),(39,jc prog mC [] Tryz.f39),(29,jc prog mC [] Tryz.f29)]}
def Fx:aM prog JU:=aM.br (aM.br (aM.br (aM.br bV (inl bV Tryz.func29 aG)) (inl bV Tryz.func39 aG)) (inl bV Tryz.func27 aG)) amj
noncomputable def YA:Code:=((Tryz.f142.body.map c7).getD []).headD .skip
def uX(es:List AV)(i:Nat):Bool:= !(uW (eS (es.getD i .J)) (fa (es.getD i .J))==0)
def YB:List AV->List (Option Row)->a6 cy
 |[.ptr 0 0,.ab (.agg [.str,.str]) es,.int .i64 n,.int .i64 i],[some (.box false [.int .i64 0,.int .i64 0])]=>.bt (bl n i es.length&&es.all okF) (h8 (uX es) es.length (λq=>.leaf (.ret,[.ptr 0 0,.ab (.agg [.str,.str]) es,.int .i64 n,.int .i64 (q:Nat)],[some (.box false [.int .i64 (uW (eS (es.getD q .J)) (fa (es.getD q .J))),.int .i64 (q:Nat)])])) (.leaf (.exit 0,[.ptr 0 0,.ab (.agg [.str,.str]) es,.int .i64 n,.int .i64 es.length],[some (.box false [.int .i64 0,.int .i64 0])])) i.toNat)
 |_,_=>.no
def JV:Ev.Loop:=⟨{len:=34,dr:=[2,11,12,13],rows:=[0]},dP YB⟩
def amm(vs:List AV)(_:List (Option Row)):Nat:=match vs with
 |[_,_,.int _ n,.int _ i]=>(n-i).toNat
 |_=>0
def amn:dj prog JU [(4,JV)] YA JV:=by
 refine ed Fx.dX rfl (ch.nil aG) amm (λaj vs rs k r h=>?_);unfold YB at h;split at h
 .rename_i es n i;obtain⟨aa,ai⟩:=bz h;simp only[ba]at aa;obtain⟨aa,cn⟩:=aa;obtain⟨rfl,an,j,rfl,aP⟩:=eA aa;rw[bK]at ai;refine bn (b:=have az:=(es.length:Int);have aI:=(es.getD j .J);have aO:=[some (Row.box false [.I 0,.I 0])];have bd:=(Sh.agg [.str,.str]);have bk:=(j:Int);have aF:=[AV.ptr 0 0,.ab bd es,.I az,.I bk];have bF:=(i64.wrap (bk+(1:Int)));have av:=(bx (uX es) es.length bF.toNat);have aZ:=(av.getD 0);bif decide (bk<az)then bif inb bk es.length then bif small (eS aI).length&&small (fa aI).length then bif uW (eS aI) (fa aI)!=0 then k .ret aF [some (.box false [.I (uW (eS aI) (fa aI)),.I bk])]else bif decide ((az-i64.wrap (bk+(1:Int))).toNat<(az-bk).toNat)then bif bl az bF es.length&&es.all okF then bif av.isSome then k .ret [.ptr 0 0,.ab bd es,.I az,.I (aZ:Int)] [some (.box false [.I (uW (eS (es.getD aZ .J)) (fa (es.getD aZ .J))),.I (aZ:Int)])]else k (.exit 0) [.ptr 0 0,.ab bd es,.I az,.I az] aO else none else none else none else none else k (.exit 0) aF aO) ?_;conv=>zeta
  rw[<-ai];by_cases aL:j<es.length
  .obtain⟨aU,bc,bw,bQ,bN⟩:=ew aL an;rw[j2 _ _ _ _ _ aL];have hT:okF (es.getD j .J)=true:=ec.1 cn _ S1;have Qe:(small (eS (es.getD j .J)).length&&small (fa (es.getD j .J)).length)=true:=hT;have hw:uX es j=(uW (eS (es.getD j .J)) (fa (es.getD j .J))!=0):=rfl;rw[hw];simp only[aU,bc,bw,bQ,bN,Qe,cn,oL,b4,bK];rfl
  .obtain rfl:j=es.length:=al;exact jo
 .cases h
def sF(es:List AV):Int:=bif decide ((es.length:Int)>60)then 2 else bif(bx (uX es) es.length 0).isSome then uW (eS (es.getD ((bx (uX es) es.length 0).getD 0) .J)) (fa (es.getD ((bx (uX es) es.length 0).getD 0) .J))else 0
def JW(es:List AV):Int:=bif decide ((es.length:Int)>60)then -1 else bif(bx (uX es) es.length 0).isSome then((bx (uX es) es.length 0).getD 0:Nat)else 0
def Qf:List AV->a6 AV
 |[.ab (.agg [.str,.str]) es]=>.bt (small es.length&&es.all okF) (.leaf (.agg [.int .i64 (sF es),.int .i64 (JW es)]))
 |_=>.no
def amo:SumOK prog 142 (aK Qf)/\b5 (aK Qf):=by
 refine iH (K:=[(4,JV)]) (b:=YA) (l:=JV) Fx Tryz.func142 aG aG amn λaj aA k r h=>?_;unfold Qf at h;split at h
 .rename_i es;obtain⟨aa,ai⟩:=bz h;simp only[ba]at aa;obtain⟨aa,cn⟩:=aa;refine bn (b:=have av:=(bx (uX es) es.length 0);have az:=(es.getD (av.getD 0) .J);bif decide ((es.length:Int)>(60:Int))then k (.agg [.I 2,.I (-1:Int)])else bif bl (es.length:Int) (0:Int) es.length&&es.all okF then bif av.isSome then k (.agg [.I (uW (eS az) (fa az)),.I ((av.getD 0):Int)])else k (.agg [.I 0,.I 0])else none) ?_;conv=>zeta
  rw[<-ai,e1 aa,cn];unfold sF JW;cases decide ((es.length:Int)>60)<;>cases(bx (uX es) es.length 0).isSome<;>rfl
 .cases h
noncomputable def YC:Code:=((Tryz.f143.body.map c7).getD []).headD .skip
noncomputable def YD:Code:=(((Tryz.f143.body.map c7).getD []).tail).headD .skip
def lh(l:List AV):List AV:=l.flatMap λe=>iA (sE e)++[.int .u8 13,.int .u8 10]
def lU(es:List AV):List AV:=es.flatMap λe=>lh (strs (x2 (eS e) (fa e)))
theorem Qg:prog.bytesOf 5=1:=aG
theorem JX{n:Nat}(h:n<=150000000000000):roomB n (prog.bytesOf 5)=true:=by grind[Qg,roomB,decide_eq_true,decide]
def two:List AV:=[.int .u8 13,.int .u8 10]
def YE:List AV->List (Option Row)->a6 cy
 |[.ptr 0 0,.bf (.int .u8),.own 900,.ab (.agg [.str,.str]) es,.int .i64 n,.int .i64 i],[some (.box false [.ab (.agg [.str,.str]) f',.ab (.int .u8) bs]),some (.arr false (.int .u8) e out none)]=>.bt (bl n i es.length&&(es.all okF&&decide (out.length+(lU (es.drop i.toNat)).length<=100000000000/\e=5))) (.leaf (.exit 0,[.ptr 0 0,.bf (.int .u8),.own 900,.ab (.agg [.str,.str]) es,.int .i64 n,.int .i64 es.length],[some (.box false [.ab (.agg [.str,.str]) f',.ab (.int .u8) bs]),some (.arr false (.int .u8) e (out++lU (es.drop i.toNat)) none)]))
 |_,_=>.no
def Fy:Ev.Loop:=⟨{len:=44,dr:=[1,2,3,11,12,13],rows:=[0,900],homes:=[(3,900,5)]},dP YE⟩
def amp(vs:List AV)(_:List (Option Row)):Nat:=match vs with
 |[_,_,_,_,.int _ n,.int _ i]=>(n-i).toNat
 |_=>0
def YF:List AV->List (Option Row)->a6 cy
 |[.ptr 0 0,.bf (.int .u8),.own 901,.ab (.agg [.str,.str]) es,.int .i64 n,.int .i64 i,.ab .str ls,.int .i64 m,.int .i64 q],[some (.box false [.ab (.agg [.str,.str]) f',.ab (.int .u8) bs]),some (.arr false (.int .u8) e out none)]=>.bt (bl m q ls.length&&(ls.all Af&&decide (out.length+(lh (ls.drop q.toNat)).length<=100000000000/\e=5))) (.leaf (.exit 2,[.ptr 0 0,.bf (.int .u8),.own 901,.ab (.agg [.str,.str]) es,.int .i64 n,.int .i64 i,.ab .str ls,.int .i64 m,.int .i64 ls.length],[some (.box false [.ab (.agg [.str,.str]) f',.ab (.int .u8) bs]),some (.arr false (.int .u8) e (out++lh (ls.drop q.toNat)) none)]))
 |_,_=>.no
def Fz:Ev.Loop:=⟨{len:=44,dr:=[1,2,3,11,12,13,25,26,27],rows:=[0,901],homes:=[(3,901,5)]},dP YF⟩
def amq(vs:List AV)(_:List (Option Row)):Nat:=match vs with
 |[_,_,_,_,_,_,_,.int _ n,.int _ i]=>(n-i).toNat
 |_=>0
def amr{ls:List AV}{j:Nat}(h:j<ls.length):lh (ls.drop j)=iA (sE (ls.getD j .J))++two++lh (ls.drop (j+1)):=by rw[Cx h];unfold lh two;rw[mg]
theorem YG:∀ls:List AV,ls.length<=(lh ls).length
 |[]=>dc _
 |e::ls=>by have:=YG ls;grind[lh,List.length_append,List.length_cons]
def YH:dj prog JU [(3,Fy),(7,Fz)] YD Fz:=by
 refine ed Fx.dX rfl (ch.nil aG) amq (λaj vs rs k r h=>?_);unfold YF at h;split at h
 .rename_i es n i ls m q f' bs e out;obtain⟨aa,ai⟩:=bz h;simp only[ba]at aa;obtain⟨aa,cn,hx⟩:=aa;obtain⟨ag,rfl⟩:=bH hx;clear hx;obtain⟨rfl,an,j,rfl,aP⟩:=eA aa;rw[bK]at ai ag;refine bn (b:=have av:=[AV.int .u8 13,.int .u8 10];have az:=(ls.length:Int);have aF:=(Sh.int .u8);have aI:=(sE (ls.getD j .J));have aO:=(i64.wrap ((j:Int)+(1:Int)));have bd:=(Sh.agg [.str,.str]);have aZ:=(Row.box false [.ab bd f',.ab aF bs]);have bk:=(prog.bytesOf 5);bif decide ((j:Int)<az)then bif inb (j:Int) ls.length then bif roomB (out.length+(iA aI).length) bk then bif roomB ((out++iA aI).length+av.length) bk then bif decide ((az-i64.wrap ((j:Int)+(1:Int))).toNat<(az-(j:Int)).toNat)then bif bl az aO ls.length&&(ls.all Af&&decide ((out++iA aI++av).length+(lh (List.drop aO.toNat ls)).length<=100000000000/\5=(5:TypeId)))then k (.exit 2) [.ptr 0 0,.bf aF,.own 901,.ab bd es,.I n,.I i,.ab .str ls,.I az,.I az] [some aZ,some (.arr false aF 5 (out++iA aI++av++lh (List.drop aO.toNat ls)) none)]else none else none else none else none else none else k (.exit 2) [.ptr 0 0,.bf aF,.own 901,.ab bd es,.I n,.I i,.ab .str ls,.I az,.I (j:Int)] [some aZ,some (.arr false aF 5 out none)]) ?_;conv=>zeta
  rw[<-ai];by_cases aL:j<ls.length
  .obtain⟨aU,bc,bw,bQ,bN⟩:=ew aL an;rw[amr aL]at ag⊢;simp only[fu]at ag;have ao:two.length=2:=rfl;have aJ:(out++iA (sE (ls.getD j .J))++two).length=out.length+(iA (sE (ls.getD j .J))).length+2:=by rw[fu,fu,ao]
   simp only[aU,bc,bw,bQ,bN,cn,nk,oL,b4,bK];refine aT (a' (JX al)) (aT (a' (JX (by rw[fu];show _+2<=_;omega))) (aT (a' (aS ⟨by show(out++iA (sE (ls.getD j .J))++two).length+_<=_;omega,trivial⟩)) ?_));show k _ _ [_,some (.arr false (.int .u8) 5 (out++iA (sE (ls.getD j .J))++two++lh (ls.drop (j+1))) none)]=k _ _ [_,some (.arr false (.int .u8) 5 (out++(iA (sE (ls.getD j .J))++two++lh (ls.drop (j+1)))) none)];simp only[nm]
  .obtain rfl:j=ls.length:=al;exact To
 .cases h
def ams{j:Nat}(h:j<es.length):lU (es.drop j)=lh (strs (x2 (eS (es.getD j .J)) (fa (es.getD j .J))))++lU (es.drop (j+1)):=by rw[Cx h];unfold lU;rw[mg]
def amt:dj prog JU [(3,Fy),(7,Fz)] YC Fy:=by
 refine ed Fx.dX rfl (ch.one aG aG YH) amp (λaj vs rs k r h=>?_);unfold YE at h;split at h
 .rename_i es n i f' bs e out;obtain⟨aa,ai⟩:=bz h;simp only[ba]at aa;obtain⟨aa,cn,hx⟩:=aa;obtain⟨ag,rfl⟩:=bH hx;clear hx;obtain⟨rfl,an,j,rfl,aP⟩:=eA aa;rw[bK]at ai ag;refine bn (b:=have az:=(es.length:Int);have aF:=(Sh.int .u8);have aI:=(i64.wrap ((j:Int)+(1:Int)));have bd:=(es.getD j .J);have av:=(strs (x2 (eS bd) (fa bd)));have aZ:=(List.drop 0 av);have bk:=(Sh.agg [.str,.str]);have aO:=(Row.box false [.ab bk f',.ab aF bs]);bif decide ((j:Int)<az)then bif inb (j:Int) es.length then bif small (eS bd).length&&small (fa bd).length then bif bl (av.length:Int) (0:Int) av.length&&(av.all Af&&decide (out.length+(lh aZ).length<=100000000000/\(5:TypeId)=(5:TypeId)))then bif decide ((az-i64.wrap ((j:Int)+(1:Int))).toNat<(az-(j:Int)).toNat)then bif bl az aI es.length&&(es.all okF&&decide ((out++lh aZ).length+(lU (List.drop aI.toNat es)).length<=100000000000/\(5:TypeId)=(5:TypeId)))then k (.exit 0) [.ptr 0 0,.bf aF,.own 900,.ab bk es,.I az,.I az] [some aO,some (.arr false aF 5 (out++lh aZ++lU (List.drop aI.toNat es)) none)]else none else none else none else none else none else k (.exit 0) [.ptr 0 0,.bf aF,.own 900,.ab bk es,.I az,.I (j:Int)] [some aO,some (.arr false aF 5 out none)]) ?_;conv=>zeta
  rw[<-ai];by_cases aL:j<es.length
  .obtain⟨aU,bc,bw,bQ,bN⟩:=ew aL an;have hT:okF (es.getD j .J)=true:=ec.1 cn _ S1;have Qe:(small (eS (es.getD j .J)).length&&small (fa (es.getD j .J)).length)=true:=hT;rw[ams aL]at ag⊢;generalize x2 (eS (es.getD j .J)) (fa (es.getD j .J))=l at ag⊢;have hlen:=YG (strs l);have aJ:(out++lh (strs l)).length=out.length+(lh (strs l)).length:=fu;rw[fu]at ag;simp only[aU,bc,bw,bQ,bN,Qe,cn,Yw,DE,nk,oL,b4,bK];refine aT (a' (aV (e1 (aS al)) (aS ⟨al,trivial⟩))) (aT (a' (aS ⟨al,trivial⟩)) ?_);rw[nm];rfl
  .obtain rfl:j=es.length:=al;exact To
 .cases h
def Qh:List AV->a6 AV
 |[.agg [.ab (.agg [.str,.str]) es,.ab (.int .u8) bs]]=>.bt (small es.length&&(es.all okF&&decide ((lU es).length<=100000000000/\bs.length<=141000000000000))) (.leaf (.ab (.int .u8) (lU es++two++bs)))
 |_=>.no
def amu:SumOK prog 143 (aK Qh)/\b5 (aK Qh):=by
 refine xZ (K:=[(3,Fy),(7,Fz)]) Fx Tryz.func143 (bs:=[YC,YD]) aG (λb ag=>?_) λaj aA k r h=>?_
 .simp at ag;rcases ag with rfl|rfl
  .exact⟨Fy,aG,amt⟩
  .exact⟨Fz,aG,YH⟩
 unfold Qh at h;split at h
 .rename_i es bs;obtain⟨aa,ai⟩:=bz h;simp only[ba]at aa;obtain⟨aa,cn,ag⟩:=aa;obtain⟨ag,hy⟩:=bH ag;refine bn (b:=have av:=[AV.int .u8 13,.int .u8 10];have az:=(List.drop 0 es);have aF:=(prog.bytesOf 5);bif bl (es.length:Int) (0:Int) es.length&&(es.all okF&&decide (([]:List AV).length+(lU az).length<=100000000000/\(3,900,(5:TypeId)).snd.snd=(5:TypeId)))then bif roomB (([]++lU az).length+av.length) aF then bif roomB (([]++lU az++av).length+bs.length) aF then k (.ab (.int .u8) ([]++lU az++av++bs))else none else none else none) ?_;conv=>zeta
  rw[<-ai,DE,pj,cn];refine aT (a' (aV (e1 aa) (aV rfl (aS ⟨by show 0+_<=_;omega,rfl⟩)))) (aT (a' (JX (by show _+2<=_;omega))) (aT (a' (JX (by rw[fu];show _+2+_<=_;omega))) rfl))
 .cases h
def nP(e:AV):Int:=(e.cells.headD .J).toInt
noncomputable def YI:Code:=((Tryz.f174.body.map c7).getD []).headD .skip
def x3(es:List AV):Nat->Int->Nat->Int×Int×Nat
 |0,n,i=>(0,n,i)
 |f+1,n,i=>bif decide (i<es.length)then
   (bif nP (es.getD i .J)==13&&(decide (i+1<es.length)&&nP (es.getD (i+1) .J)==10)then x3 es f 0 (i+2)
    else bif nP (es.getD i .J)==13||nP (es.getD i .J)==10 then(11,n,i)
    else bif decide (n+1>998)then(1,n+1,i)else x3 es f (n+1) (i+1))
  else(0,n,i)
def JY(es:List AV)(f:Nat)(n:Int)(i:Nat):x3 es (f+1) n i=bif decide (i<es.length)then
  (bif nP (es.getD i .J)==13&&(decide (i+1<es.length)&&nP (es.getD (i+1) .J)==10)then x3 es f 0 (i+2)
   else bif nP (es.getD i .J)==13||nP (es.getD i .J)==10 then(11,n,i)
   else bif decide (n+1>998)then(1,n+1,i)else x3 es f (n+1) (i+1))
 else(0,n,i):=rfl
def JZ(es:List AV):∀(f g:Nat)(n:Int)(i:Nat),es.length-i<f->es.length-i<g->x3 es f n i=x3 es g n i
 |0,_,_,_,h,_=>absurd h (Nat.not_lt_zero _)
 |_+1,0,_,_,_,h=>absurd h (Nat.not_lt_zero _)
 |f+1,g+1,n,i,aR,aB=>by
  rw[JY,JY];by_cases h:i<es.length
  .rw[JZ es f g 0 (i+2) al al,JZ es f g (n+1) (i+1) al al]
  .rw[cZ h];rfl
def ju(es:List AV)(n:Int)(i:Nat):Int×Int×Nat:=x3 es (es.length-i+1) n i
def amv{i:Nat}(h:i<es.length)(n:Int):ju es n i=bif nP (es.getD i .J)==13&&(decide (i+1<es.length)&&nP (es.getD (i+1) .J)==10)then ju es 0 (i+2)
  else bif nP (es.getD i .J)==13||nP (es.getD i .J)==10 then(11,n,i)
  else bif decide (n+1>998)then(1,n+1,i)else ju es (n+1) (i+1):=by
 unfold ju
 rw[JY,aS h,b4,JZ es (es.length-i) (es.length-(i+1)+1) (n+1) (i+1) al al]
 by_cases ao:i+1<es.length
 .rw[JZ es (es.length-i) (es.length-(i+2)+1) 0 (i+2) al al]
 .rw[cZ ao,A7,Bool.and_false];rfl
def amw(n:Int):ju es n es.length=(0,n,es.length):=by unfold ju;rw[JY,cZ (mK _)];rfl
def YJ:List AV->List (Option Row)->a6 cy
 |[.ab (.int .u8) es,.int .i64 r,.int .i64 n,.int .i64 i],[]=>
  .bt (small es.length&&decide (0<=i/\i<=es.length/\0<=n/\n<=998)) (.cY ((ju es n i.toNat).1==0)
   (.leaf (.exit 0,[.ab (.int .u8) es,.int .i64 r,.int .i64 (ju es n i.toNat).2.1,.int .i64 (ju es n i.toNat).2.2],[]))
   (.leaf (.ret,[.ab (.int .u8) es,.int .i64 (ju es n i.toNat).1,.int .i64 (ju es n i.toNat).2.1,.int .i64 (ju es n i.toNat).2.2],[])))
 |_,_=>.no
def J0:Ev.Loop:=⟨{len:=45,dr:=[0,2,3,4]},dP YJ⟩
def amx(vs:List AV)(_:List (Option Row)):Nat:=match vs with
 |[.ab _ es,_,_,.int _ i]=>((es.length:Int)-i).toNat
 |_=>0
def amy:dj prog mC [(3,J0)] YI J0:=by
 refine ed bV.dX rfl (ch.nil aG) amx (λaj vs rs k r h=>?_);unfold YJ at h;split at h
 .rename_i es bo n i;obtain⟨aa,ai⟩:=bz h;simp only[ba,fD]at aa;obtain⟨an,a7,af,ao,a1⟩:=aa;have an:es.length<=9223372036854775807:=bH an;obtain⟨j,rfl⟩:∃j:Nat,i=j:=⟨i.toNat,al⟩;rw[bK]at ai;refine bn (b:=have aO:=(Sh.int .u8);have aZ:=(es.length:Int);have bF:=(nP (es.getD j .J));have bI:=(n+(1:Int));have b3:=(j:Int);have aI:=(b3+(1:Int));have bd:=(i64.wrap aI+(1:Int));have az:=(ju es (0:Int) (i64.wrap bd).toNat);have bk:=[AV.ab aO es,.I 11,.I n,.I b3];have cd:=(Ex.exit 0);have cJ:=(i64.wrap aI);have aF:=(ju es (i64.wrap bI) cJ.toNat);have av:=bif bF==13 then k .ret bk []else bif bF==10 then k .ret bk []else bif decide (i64.wrap bI>(998:Int))then k .ret [.ab aO es,.I 1,.I (i64.wrap bI),.I b3] []else bif decide ((aZ-i64.wrap aI).toNat<(aZ-b3).toNat)then bif small es.length&&decide ((0:Int)<=i64.wrap aI/\i64.wrap aI<=aZ/\(0:Int)<=i64.wrap bI/\i64.wrap bI<=(998:Int))then bif aF.fst==0 then k cd [.ab aO es,.I bo,.I aF.snd.fst,.I (aF.snd.snd:Int)] []else k .ret [.ab aO es,.I aF.fst,.I aF.snd.fst,.I (aF.snd.snd:Int)] []else none else none;bif decide (b3<aZ)then bif inb b3 es.length then bif bF==13 then bif decide (i64.wrap aI<aZ)then bif inb cJ es.length then bif(nP (es.getD cJ.toNat .J))==10 then bif decide ((aZ-i64.wrap bd).toNat<(aZ-b3).toNat)then bif small es.length&&decide ((0:Int)<=i64.wrap bd/\i64.wrap bd<=aZ/\(0:Int)<=(0:Int)/\(0:Int)<=(998:Int))then bif az.fst==0 then k cd [.ab aO es,.I bo,.I az.snd.fst,.I (az.snd.snd:Int)] []else k .ret [.ab aO es,.I az.fst,.I az.snd.fst,.I (az.snd.snd:Int)] []else none else none else av else none else av else av else none else k cd [.ab aO es,.I bo,.I n,.I b3] []) ?_;conv=>zeta
  rw[<-ai];by_cases aL:j<es.length
  .have w1:i64.wrap ((j:Int)+1)=((j+1:Nat):Int):=by rw[mL _ al al];omega
   have iR:i64.wrap (n+1)=n+1:=mL _ al al;rw[amv aL];have k3:small es.length=true:=aS al;simp only[w1,iR,bK,k3,nk];have bc:inb (j:Int) es.length=true:=ie al al;rw[aS (show(j:Int)<(es.length:Int)by omega),bc,b4,b4];have rT:∀(X:Option aj),(bif decide ((es.length-((j+1:Nat):Int)).toNat<((es.length:Int)-(j:Int)).toNat)then X else none)=X:=λX=>a' (aS al);have bp:decide (n+1>998)=false->decide ((0:Int)<=((j+1:Nat):Int)/\((j+1:Nat):Int)<=es.length/\0<=n+1/\n+1<=998)=true:=λh=>aS ⟨al,al,al,by have:=yJ h;omega⟩;cases YK:nP (es.getD j .J)==13
   .cases FA:nP (es.getD j .J)==10
    .cases tA:decide (n+1>998)
     .simp only[cU,A7,GK,rT,bp tA,b4];rfl
     .rfl
    .rfl
   .by_cases mU:j+1<es.length
    .have ga:i64.wrap (((j+1:Nat):Int)+1)=((j+2:Nat):Int):=by rw[mL _ al al];omega
     have bw:inb ((j+1:Nat):Int) es.length=true:=ie al al;rw[aS (show((j+1:Nat):Int)<(es.length:Int)by omega),bw,aS mU];simp only[ga,bK];cases FA:nP (es.getD (j+1) .J)==10
     .rfl
     .refine aT (a' rfl) (aT (a' rfl) (aT (a' rfl) (aT (a' rfl) (aT (a' (aS al)) (aT (a' (aS ⟨al,al,al,al⟩)) ?_)))));rfl
    .rw[cZ (show ¬((j+1:Nat):Int)<(es.length:Int)by omega),cZ mU];rfl
  .obtain rfl:j=es.length:=al;rw[amw,cZ al];rfl
 .cases h
def Qi:List AV->a6 AV
 |[.ab (.int .u8) es]=>.bt (small es.length) (.leaf (.int .i64 (ju es 0 0).1))
 |_=>.no
def amz:SumOK prog 174 (aK Qi)/\b5 (aK Qi):=by
 refine iH (K:=[(3,J0)]) (b:=YI) (l:=J0) bV Tryz.func174 aG aG amy λaj aA k r h=>?_;unfold Qi at h;split at h
 .rename_i es;obtain⟨aa,ai⟩:=bz h;refine bn (b:=bif small es.length&&decide ((0:Int)<=(0:Int)/\(0:Int)<=(es.length:Int)/\(0:Int)<=(0:Int)/\(0:Int)<=(998:Int))then bif(ju es (0:Int) 0).fst==0 then k (.I 0)else k (.I (ju es (0:Int) 0).fst)else none) ?_;rw[<-ai,aa];refine aT (a' (aV rfl (aS ⟨al,al,al,al⟩))) ?_;show(bif(ju es 0 0).1==0 then _ else _)=_;cases a7:(ju es 0 0).1==0
  .rfl
  .have:(ju es 0 0).1=0:=Hd;rw[this];rfl
 .cases h
def J1(es:List AV):Int:=bif(ju es 0 0).1==11 then 11 else bif(ju es 0 0).1==1 then 1 else 0
def J2(es:List AV):Int:=bif(ju es 0 0).1==11 then -5 else bif(ju es 0 0).1==1 then -6 else 0
def Qj:List AV->a6 AV
 |[.ab (.int .u8) es]=>.bt (small es.length) (.leaf (.agg [.int .i64 (J1 es),.int .i64 (J2 es)]))
 |_=>.no
def amA:SumOK prog 144 (aK Qj)/\b5 (aK Qj):=by
 refine eJ (aM.br (aM.br (aM.br bV (inl bV Tryz.func29 aG)) (inl bV Tryz.func39 aG)) amz) Tryz.func144 aG λaj aA k r h=>?_;unfold Qj at h;split at h
 .rename_i es;obtain⟨aa,ai⟩:=bz h;refine bn (b:=bif small es.length then bif(ju es (0:Int) 0).fst==11 then k (.agg [.I 11,.I (-5:Int)])else bif(ju es (0:Int) 0).fst==1 then k (.agg [.I 1,.I (-6:Int)])else k (.agg [.I 0,.I 0])else none) ?_;rw[<-ai,aa];unfold J1 J2;cases(ju es 0 0).1==11<;>cases(ju es 0 0).1==1<;>rfl
 .cases h
def YL:∀(n:Nat)(s:List UInt8)(f:Int),(dB n s f).1.flatten++(dB n s f).2.1=s
 |0,s,f=>rfl
 |n+1,s,f=>by
  rw[CD];cases CE:decide ((s.length:Int)>78)
  .rfl
  .cases au:jf s f==0
   .simp only[b4,cU,yD,nm];rw[YL n];exact uh _ _
   .rfl
def amB(n v:List UInt8):(ku n v).flatten=n++[58,32]++v:=by unfold ku;rw[List.flatten_append,List.flatten_singleton];exact YL _ _ _
def YM:∀l:List (List UInt8),(lh (strs l)).length=l.flatten.length+2*l.length
 |[]=>rfl
 |x::l=>by have ih:=YM l;unfold lh strs at ih⊢;rw[iZ,mg,fu,ih,fu,yD,fu,e5];show(iA x).length+2+(l.flatten.length+2*l.length)=x.length+l.flatten.length+2*(l.length+1);rw[xD];omega
def amC(n v:List UInt8):(ku n v).length<=n.length+v.length+3:=by have hle:=Qd (n++[58,32]++v).length (n++[58,32]++v) ((n.length:Int)+2);have ay:(n++[58,32]++v).length=n.length+2+v.length:=GZ;unfold ku;rw[fu];show _+1<=_;omega
def amD(n v:List UInt8):(lh (strs (x2 n v))).length<=13000:=by
 unfold x2;cases af:w5 n
 .exact iM _
 .cases ca:decide ((v.length:Int)>4000)
  .cases x0 v
   .exact iM _
   .cases(bx (x1 (ku n v)) (ku n v).length 0).isSome
    .show(lh (strs (ku n v))).length<=_;have Oq:v.length<=4000:=by have:=yJ ca;omega
     have amk:n.length<=60:=SH;have:=amC n v;have ay:(n++[58,32]++v).length=n.length+2+v.length:=GZ;rw[YM,amB,ay];omega
    .exact iM _
  .exact iM _
def YN:∀es:List AV,(lU es).length<=13000*es.length
 |[]=>dc _
 |e::es=>by have ih:=YN es;have:=amD (eS e) (fa e);unfold lU at ih⊢;rw[mg,fu,e5];omega
def amE(h:(sF es==0)=true):es.length<=60:=by
 unfold sF at h;cases gB:decide ((es.length:Int)>60)
 .have:=yJ gB;omega
 .rw[gB]at h;cases h
def wm(es bs:List AV):Int:=bif !(sF es==0)then sF es else bif decide (((lU es++two++bs).length:Int)>12000)then 1 else J1 bs
def YO(es bs:List AV):Int:=bif !(sF es==0)then JW es else bif decide (((lU es++two++bs).length:Int)>12000)then -4 else J2 bs
def Qk:List AV->a6 AV
 |[.agg [.ab (.agg [.str,.str]) es,.ab (.int .u8) bs]]=>.bt (small es.length&&(es.all okF&&decide (bs.length<=141000000000000))) (.leaf (.agg [.int .i64 (wm es bs),.int .i64 (YO es bs)]))
 |_=>.no
def amF:SumOK prog 103 (aK Qk)/\b5 (aK Qk):=by
 refine eJ (aM.br (aM.br (aM.br (aM.br (aM.br (aM.br bV (inl bV Tryz.func29 aG)) (inl bV Tryz.func39 aG)) (inl bV Tryz.func27 aG)) amA) amu) amo) Tryz.func103 aG λaj aA k r h=>?_;unfold Qk at h;split at h
 .rename_i es bs;obtain⟨aa,ai⟩:=bz h;simp only[ba]at aa;obtain⟨aa,cn,ag⟩:=aa;have cp:bs.length<=141000000000000:=bH ag;refine bn (b:=bif small es.length&&es.all okF then bif sF es !=0 then k (.agg [.I (sF es),.I (JW es)])else bif small es.length&&(es.all okF&&decide ((lU es).length<=100000000000/\bs.length<=141000000000000))then bif decide (((lU es++two++bs).length:Int)>(12000:Int))then k (.agg [.I 1,.I (-4:Int)])else bif small bs.length then k (.agg [.I (J1 bs),.I (J2 bs)])else none else none else none) ?_;rw[<-ai,aa,cn];unfold wm YO;have bO:(sF es !=0)= !(sF es==0):=rfl;rw[bO];cases a7:sF es==0
  .rfl
  .have gB:=amE a7;have hw:=YN es;rw[aS (show(lU es).length<=100000000000/\bs.length<=141000000000000 from⟨al,cp⟩),show small bs.length=true from aS al];cases decide (((lU es++two++bs).length:Int)>12000)<;>rfl
 .cases h
def bm(e:AV):List UInt8:=(e.cells.headD .J).toStr
def Ag(e:AV):List AV:=(e.cells.tail.headD .J).toList
def eh(e:AV):Bool:=ee (bm e).length
def kv(x:Option Nat):Int:=match x with
 |some n=>n
 |none=> -1
def CG(vs:List AV)(_:List (Option Row)):Nat:=match vs with
 |[_,_,_,.int _ n,.int _ i]=>(n-i).toNat
 |_=>0
def jg{p:AV->Bool}(h:es.all p=true){j:Nat}(aP:j<es.length):p (es.getD j .J)=true:=by rw[List.getD,fC aP];exact ec.1 h _ (p3 aP)
def kx(d:List UInt8)(e:AV):Bool:=bm e==d
def iT(d:List UInt8)(es:List AV)(i:Nat):Option Nat:=bx (λi=>kx d (es.getD i .J)) es.length i
def Ah(ms:List AV)(e:AV):List AV:=gG (.str (bm e)) (.ab .str (Ag e)) ms
def Ql(es:List AV):List AV:=es.foldl Ah []
def YP{ja sv:Sh}{v:AV}(ar:cb sv v=true):∀(ms:List AV)(n:Nat),jb ja sv ms=true->jb ja sv (lK v ms n)=true
 |[],n,_=>by cases n<;>rfl
 |e::ms,0,h=>by
  simp only[jb,lK,lq,ba]at h⊢;refine⟨?_,h.2⟩;have af:=h.1;unfold za at af;split at af
  .simp only[ba]at af;simp only[za,eL,ba];exact⟨af.1,ar⟩
  .cases af
 |e::ms,n+1,h=>by simp only[jb,lK,lq,ba]at h⊢;exact⟨h.1,YP ar ms n h.2⟩
def amG{ja sv:Sh}{k v:AV}{ms:List AV}(ai:cb ja k=true)(ar:cb sv v=true)(h:jb ja sv ms=true):jb ja sv (gG k v ms)=true:=by
 unfold gG;cases dq k ms with
 |true=>exact YP ar ms _ h
 |false=>simp only[cU];simp only[jb,List.all_append,lq,List.all_nil,ba,oL]at h⊢;refine⟨h,?_⟩;simp only[za,ba];exact⟨ai,ar⟩
def CH:shOf Tryz.prog depth 9=.str:=aG
def Qm(e:AV):Bool:=match e with
 |.tup [.str _,.bool true]=>true
 |_=>false
def qF(o:List AV×List AV)(e:AV):List AV×List AV:=bif dq (.str (bm e)) o.1 then o else(o.1++[.tup [.str (bm e),.bool true]],o.2++[.str (bm e)])
def J3:shOf Tryz.prog depth 4=.bool:=aG
def amH{α:Type}(f:α->AV->α)(o:α)(es:List AV)(j:Nat)(h:j<es.length):(es.drop j).foldl f o=(es.drop (j+1)).foldl f (f o (es.getD j .J)):=by rw[rP h,jw,List.getD,fC h];rfl
def amI{n:Nat}(h:n<=1000001):roomB n (Tryz.prog.bytesOf 9)=true:=by have tA:Tryz.prog.bytesOf 9=16:=aG;rw[tA];unfold roomB;have af:n*16<=140737488355328:=al;have ao:n<=4611686018427387904:=al;exact ME
end Go.Proofs.YtijdnecnjenleaaGreatDoor
namespace Go.Ev
open Go.RowKit
variable{q:Array Tmp×Code×Code}
def FB:Func:={(default:Func)with results:= #[]}
noncomputable def YQ(P:Program)(aq:Env)(K:List (Nat×Loop))(key:Int)(q:Array Tmp×Code×Code):jD:=λaj aA rows k=>
 match aA,rows with
 |.own p::xs,.box false (.tup [.int .i64 r4]::tm)::rest=>
  if p==aE&&(r4==key&&Nat.ble rest.length 999999)then
   (bC.mk ((q.1.toList.zip xs).foldl (λt p=>t.set p.1 p.2) tm) (ik (aE+1) rest) (List.range' aE (rest.length+1))).force λst=>
    er P aq K q.2.1 aj st λe eU=>match e with
     |.normal=>er P aq K q.2.2 aj eU λe hG=>match e with
      |.normal=>tg P FB (rest.length+1) hG λ_ c1 cf=>k (.bool true) (some (.box false (.tup [.int .i64 key]::tm))::c1.tail) cf
      |.ret=>tg P FB (rest.length+1) hG λ_ c1 cf=>k (.bool false) (some (.box false (.tup [.int .i64 key,.bool true]::tm))::c1.tail) cf
      |_=>none
     |_=>none
  else none
 |_,_=>none
def YR{w:World}{S:Nat->Prop}{β:cD}:∀(bj:List Nat){xs tm:List AV}{args us:List Value},VRels w S β xs args->VRels w S β tm us->VRels w S β ((bj.zip xs).foldl (λt p=>t.set p.1 p.2) tm) ((bj.zip args).foldl (λt p=>t.set p.1 p.2) us)
 |[],_,_,_,_,_,h=>h
 |p::bj,[],_,args,_,ak,h=>by rw[ak.gf];exact h
 |p::bj,x::xs,tm,args,us,ak,h=>by obtain⟨v,vs,rfl,ar,b6⟩:=ak.inv;exact YR bj b6 (h.set p ar)
def YS:∀(l:List (Nat×Value))(t:Array Value),(l.foldl (λt p=>t.setIfInBounds p.1 p.2) t).toList=l.foldl (λt p=>t.set p.1 p.2) t.toList
 |[],_=>rfl
 |p::l,t=>by rw[jw,jw,YS l];simp
section
variable{P:Program}{aq:Env}{K:List (Nat×Loop)}
theorem amJ{rows:List Row}{x:Row}{id:Nat}{r:Row}(h:lookup (ik (aE+1) rows) id=some r):id≠aE/\lookup (ik aE (x::rows)) id=some r:=by obtain⟨hle,_⟩:=Hv _ _ _ _ h;grind[aE,lookup,ik]
def amK(bR:aM P aq)(dS:uG P aq)(aD:aq.j4=[]){key:Int}(aH:q=ra key)(Qn:ch P aq K q.2.1)(Qo:ch P aq K q.2.2)
  {aj:Type}{w:World}{S B:Nat->Prop}{β:cD}{og:Nat->Option Nat}{aA tm:List AV}{rows:List Row}{args:List Value}{k:AV->List (Option Row)->List Row->Option aj}{r:aj}{l:Nat}{bo:Go.Loop}{us:List Value}
  (ep:Heap w S B β og (ik aE (.box false (.tup [.int .i64 key]::tm)::rows)))(k7:(∀b,S b->B b)/\Glb B w)(l6:∀id x,β id=some x->aE<=id/\id<aE+(rows.length+1))(ar:VRels w S β aA args)
  (Ai:β aE=some (.func (.yield l) #[] #[],1))(x4:og aE=some l)(vN:w.heap[l]?=some (.loop bo))(fx:bo.state=.ready)(_hpd:bo.pending=none)(xx:(bo.params,bo.assign,bo.body)=ra key)(Cr:bo.tmps.toList=us)(J4:VRels w S β tm us)(k3:rows.length<=999999)
  (he:(er P aq K q.2.1 aj (bC.mk ((q.1.toList.zip aA).foldl (λt p=>t.set p.1 p.2) tm) (ik (aE+1) rows) (List.range' aE (rows.length+1))) λe eU=>match e with
   |.normal=>er P aq K q.2.2 aj eU λe hG=>match e with
    |.normal=>tg P FB (rows.length+1) hG λ_ c1 cf=>k (.bool true) (some (.box false (.tup [.int .i64 key]::tm))::c1.tail) cf
    |.ret=>tg P FB (rows.length+1) hG λ_ c1 cf=>k (.bool false) (some (.box false (.tup [.int .i64 key,.bool true]::tm))::c1.tail) cf
    |_=>none
   |_=>none)=some r):
  RoundIn Fence.wide 0 P l bo.fn ((bo.params.zip args.toArray).foldl (λt(p,v)=>t.setIfInBounds p v) bo.tmps) bo.assign bo.body w λe w'=>∃u v c1 cf S' bD dO,e=.returned u/\k v c1 cf=some r/\uz w S B β c1 cf v u w' S' bD dO:=by
 obtain⟨k7,iG⟩:=k7
 have amL:q=(bo.params,bo.assign,bo.body):=aH.trans xx.symm
 subst amL
 have EL:l<w.heap.size:=ep.lt aE l x4
 have YT:=ep.row aE (.box false (.tup [.int .i64 key]::tm)) (by simp[ik,lookup])
 have IE:¬S l:=YT.free rfl l x4
 have J5:¬B l:=YT.place.2 l x4
 have HN:aE<bY:=gn
 obtain⟨hs,lz⟩:∃hs:Ctx,hs=⟨λb=>B b\/b=l,β,[]⟩:=⟨_,rfl⟩
 have J6:hs l:=Mn
 have Aj:∀b,B b->hs b:=λb ag=>G4
 have amM:((bo.params.zip args.toArray).foldl (λt(p,v)=>t.setIfInBounds p v) bo.tmps).toList=(bo.params.toList.zip args).foldl (λt p=>t.set p.1 p.2) us:=by rw[<-Cr,<-YS,<-Array.foldl_toList];simp
 have amN:Rel w S hs β (λid=>if id=aE then none else og id) (bC.mk ((bo.params.toList.zip aA).foldl (λt p=>t.set p.1 p.2) tm) (ik (aE+1) rows) (List.range' aE (rows.length+1))) {tmps:=(bo.params.zip args.toArray).foldl (λt(p,v)=>t.setIfInBounds p v) bo.tmps,defers:=[]}:=by
  refine⟨?_,by rw[lz],λid x ak=>?_,λid eg g aB dK=>?_,λid g aB=>?_,λid x ak=>?_,ep.one,ep.dF,λb ag=>?_,λid x _ ak=>by rw[lz];exact ak⟩
  .show VRels w S β _ ((bo.params.zip args.toArray).foldl (λt(p,v)=>t.setIfInBounds p v) bo.tmps).toList;rw[amM];exact YR _ ar J4
  .obtain⟨bO,ak⟩:=amJ (x:=.box false (.tup [.int .i64 key]::tm)) ak;rw[c0 bO];refine(ep.row id x ak).ET λg aB aJ ag=>?_;rw[lz]at ag;rcases ag with ag|ag
   .exact aJ ag
   .subst ag;exact bO (ep.inj id aE _ aB x4)
  .by_cases e:id=aE
   .rw[dE e]at aB;cases aB
   .by_cases e':eg=aE
    .rw[dE e']at dK;cases dK
    .rw[c0 e]at aB;rw[c0 e']at dK;exact ep.inj id eg g aB dK
  .by_cases e:id=aE
   .rw[dE e]at aB;cases aB
   .rw[c0 e]at aB;exact ep.lt id g aB
  .obtain⟨af,ao⟩:=l6 id x ak;show id∈List.range' aE (rows.length+1);rw[A8];exact⟨af,ao⟩
  .rw[lz]at ag;rcases ag with ag|ag
   .exact ep.dZ b ag
   .omega
 have Vh:Glb hs w:=iG.mono Aj
 have eE:eX w S hs (bC.mk ((bo.params.toList.zip aA).foldl (λt p=>t.set p.1 p.2) tm) (ik (aE+1) rows) (List.range' aE (rows.length+1))) {tmps:=(bo.params.zip args.toArray).foldl (λt(p,v)=>t.setIfInBounds p v) bo.tmps,defers:=[]} w:=⟨S,β,_,amN,⟨oZ.refl Vh,λ_ h=>.inl h,λ_ h=>h⟩⟩
 refine roundIn_of_wpIn (F:=Fence.wide) (n:=0) trivial ?_
 refine xN (R:=some l) bR dS bo.assign Qn (iQ.no aD _) aj _ _ r _ w _ he eE.e λe eU bJ w1 qz Ed=>?_
 cases e with
 |ret=>cases qz
 |exit i=>cases qz
 |normal=>
 obtain⟨amO,awi,J7,na,hc,r7,vD,rk,wo⟩:=Ed
 have FC:J7 l:=na.up l J6
 have YU:w1.heap[l]?=some (.loop bo):=(wo.gL.block l FC).trans ((na.kept.block l J6).trans vN)
 have amP:¬hc l:=λan=>(wo.sin l an).elim (λh=>(na.sin l h).elim IE λh=>h J6) λh=>h FC
 have ka:Kept B w w1:=Kept.trans (b:=amO) ⟨na.kept.os,na.kept.tape,na.kept.output,na.kept.size,λb ag=>na.kept.block b (Aj b ag)⟩ ⟨wo.gL.os,wo.gL.tape,wo.gL.output,wo.gL.size,λb ag=>wo.gL.block b (na.up b (Aj b ag))⟩
 have gr:Kept B w (w1.putObj l (.loop {bo with state:=.busy})):=ka.xJ _ J5
 have k8:Rel (w1.putObj l (.loop {bo with state:=.busy})) hc J7 r7 vD eU bJ:=rk.xJ _ (λid x ak aB=>(rk.row id x ak).place.2 l aB FC) amP
 have YV:Glb J7 (w1.putObj l (.loop {bo with state:=.busy})):=λw' ai=>iG w' (gr.trans ⟨ai.os,ai.tape,ai.output,ai.size,λb ag=>ai.block b (na.up b (Aj b ag))⟩)
 have Co:eX (w1.putObj l (.loop {bo with state:=.busy})) hc J7 eU bJ (w1.putObj l (.loop {bo with state:=.busy})):=⟨hc,r7,vD,k8,⟨oZ.refl YV,λ_ h=>.inl h,λ_ h=>h⟩⟩
 refine⟨_,run_beginRound YU fx,?_⟩
 obtain⟨ga,CI⟩:∃ga,ga=w1.putObj l (.loop {bo with state:=.busy}):=⟨_,rfl⟩
 rw[<-CI]at gr k8 YV Co⊢
 refine xN (R:=some l) bR dS bo.body Qo (iQ.no aD _) aj _ _ r _ ga _ qz Co.e λe hG a2 iR ss oW=>?_
 suffices core:∀(d:Bool),(tg P FB (rows.length+1) hG λ_ c1 cf=>k (.bool !d) (some (.box false (.tup (vL key d)::tm))::c1.tail) cf)=some r->
   ∃v w',(Instr.endRound l (bif d then some .ret else none)).run P iR=.ok v w'/\(∃u v1 c1 cf S' bD dO,(Ending.returned v)=.returned u/\k v1 c1 cf=some r/\uz w S B β c1 cf v1 u w' S' bD dO)by
  cases e with
  |exit i=>cases ss
  |normal=>exact core false ss
  |ret=>exact core true ss
 clear ss
 intro d ss
 obtain⟨amQ,awj,J8,sG,amR,amS,amT,Oo,IF⟩:=oW
 have Qp:J8 l:=sG.up l FC
 have mU:l<w1.heap.size:=(s0.1 YU).1
 have amU:ga.heap[l]?=some (.loop {bo with state:=.busy}):=by rw[CI];exact World.putObj_heap_same mU
 have YW:iR.heap[l]?=some (.loop {bo with state:=.busy}):=(IF.gL.block l Qp).trans ((sG.kept.block l FC).trans amU)
 have YX:l<iR.heap.size:=(s0.1 YW).1
 have YY:J8.kH=β:=by rw[sG.kH,na.kH,lz]
 have amV:∀id x,J8.kH id=some x->id<bY:=λid x ak=>by rw[YY]at ak;have:=(l6 id x ak).2;have:aE+1000000<bY:=gn;omega
 obtain⟨u,awk,v,c1,cf,S',bD,dO,hp,bq⟩:=Oz (w:=iR) (np:=rows.length+1) ⟨amR,amS,amT,Oo,IF⟩ amV ss
 refine⟨_,_,run_endRound (bif d then some .ret else none) YW,.bool !d,.bool !d,_,_,S',λid=>if id<bY then β id else bD id,λid=>@ite _ (id=aE) _ (some l) (@ite _ ((∃j x,id=aE+j/\c1[j]?=some (some x))\/∃j x,id=bY+j/\cf[j]?=some x) (Classical.propDecidable _) (dO id) none),(by cases d<;>rfl),hp,?_⟩
 obtain⟨qG,FD⟩:∃qG,qG=iR.putObj l (.loop {({bo with state:=.busy}:Go.Loop)with state:=(bif d then .done else .ready),pending:=(bif d then some .ret else none)}):=⟨_,rfl⟩
 have amW:qG.heap[l]?=some (.loop {({bo with state:=.busy}:Go.Loop)with state:=(bif d then .done else .ready),pending:=(bif d then some .ret else none)}):=by rw[FD];exact World.putObj_heap_same YX
 have CJ:∀b,b≠l->qG.heap[b]?=iR.heap[b]?:=λb ag=>by rw[FD];exact World.putObj_heap_other ag
 have YZ:qG.heap.size=iR.heap.size:=by rw[FD];exact World.putObj_size
 have Qq:∀b,B b->J8 b:=λb ag=>sG.up b (na.up b (Aj b ag))
 have Pb:Kept B w iR:=gr.trans (Kept.trans (b:=amQ) ⟨sG.kept.os,sG.kept.tape,sG.kept.output,sG.kept.size,λb ag=>sG.kept.block b (na.up b (Aj b ag))⟩ ⟨bq.kept.os,bq.kept.tape,bq.kept.output,bq.kept.size,λb ag=>bq.kept.block b (Qq b ag)⟩)
 have xM:Kept B w qG:=by rw[FD];exact Pb.xJ _ J5
 have Y0:∀b,S b->S' b:=λb ag=>bq.sub b (sG.sub b (wo.sub b (na.sub b ag)))
 have Y1:∀b,S' b->S b\/¬hs b:=λb ag=>(bq.sin b ag).elim (λh=>(sG.sin b h).elim (λh=>(wo.sin b h).elim (na.sin b) λh=>.inr λh'=>h (na.up b h')) λh=>.inr λh'=>h (na.up b h')) λh=>.inr λh'=>h (sG.up b (na.up b h'))
 have Y2:¬S' l:=λan=>(Y1 l an).elim IE λh=>h J6
 have Y3:∀id x,bD id=some x->(if id<bY then β id else bD id)=some x:=λid x ak=>by
  by_cases aL:id<bY
  .rw[dE aL,<-YY];exact bq.kH id x aL ak
  .rw[c0 aL];exact ak
 have Y4:∀id x,β id=some x->(if id<bY then β id else bD id)=some x:=λid x ak=>by have af:=(l6 id x ak).2;have ao:aE+1000000<bY:=gn;rw[dE al];exact ak
 have amX:∀b,S b->qG.heap[b]?=w.heap[b]?:=λb ag=>xM.block b (k7 b ag)
 have Y5:∀b,S' b->qG.heap[b]?=iR.heap[b]?:=λb ag=>CJ b λe=>Y2 (by rw[<-e];exact ag)
 have Y6:∀j x,c1[j]?=some (some x)->∀g,dO (aE+j)=some g->g≠l:=λj x ak g aB e=>(bq.c1 j x ak).place.2 g aB (by rw[e];exact Qp)
 have Y7:∀j x,cf[j]?=some x->∀g,dO (bY+j)=some g->g≠l:=λj x ak g aB e=>(bq.cf j x ak).place.2 g aB (by rw[e];exact Qp)
 obtain⟨ko,zl⟩:∃ko:Nat->Option Nat,ko=λid=>@ite _ (id=aE) _ (some l) (@ite _ ((∃j x,id=aE+j/\c1[j]?=some (some x))\/∃j x,id=bY+j/\cf[j]?=some x) (Classical.propDecidable _) (dO id) none):=⟨_,rfl⟩
 rw[<-zl]
 suffices sg:uz w S B β (some (.box false (.tup (vL key d)::tm))::c1.tail) cf (.bool !d) (.bool !d) qG S' (λid=>if id<bY then β id else bD id) ko by rw[FD]at sg;cases d<;>exact sg
 have amY:ko aE=some l:=by rw[zl];simp
 have amZ:∀j x,c1[j+1]?=some (some x)->ko (aE+(j+1))=dO (aE+(j+1)):=λj x ak=>by rw[zl];show @ite _ (aE+(j+1)=aE) _ _ _=_;rw[c0 al,dE (.inl ⟨j+1,x,rfl,ak⟩)]
 have EH:∀j x,cf[j]?=some x->ko (bY+j)=dO (bY+j):=λj x ak=>by rw[zl];show @ite _ (bY+j=aE) _ _ _=_;rw[c0 al,dE (.inr ⟨j,x,rfl,ak⟩)]
 have di:∀id g,ko id=some g->(id=aE/\g=l)\/(id≠aE/\g≠l/\dO id=some g):=λid g aB=>by
  rw[zl]at aB;by_cases e:id=aE
  .have aB:@ite _ (id=aE) _ (some l) _=some g:=aB;rw[dE e]at aB;cases aB;exact .inl ⟨e,rfl⟩
  .have aB:@ite _ (id=aE) _ (some l) _=some g:=aB;rw[c0 e]at aB;split at aB
   .rename_i aa;refine .inr ⟨e,?_,aB⟩;rcases aa with⟨j,x,rfl,ak⟩|⟨j,x,rfl,ak⟩
    .exact Y6 j x ak g aB
    .exact Y7 j x ak g aB
   .cases aB
 refine⟨xM,Y0,λb ag=>(Y1 b ag).imp id λh ag=>h (Aj b ag),.bool _ _,λj x ak=>?_,λj x ak=>?_,λid eg g aB dK=>?_,λid g aB=>?_,λid x ak=>?_,λb ag=>by rw[YZ];exact bq.dF b ag,λid x aL ak=>by have ak:(if id<bY then β id else bD id)=some x:=ak;rw[dE aL]at ak;exact ak⟩
 .cases j with
  |zero=>
   simp only[sY,ej]at ak;subst ak;refine⟨l,.tuple (qj key d).toArray::us,.func (.yield l) #[] #[],amY,Y4 _ _ Ai,.inr (.inl ⟨_,key,us,d,amW,rfl,rfl,xx,rfl,Cr,rfl⟩),VRels.cons ?_ (J4.mono Y0 amX Y4),λ_=>Y2,(λh=>cM),J5⟩;exact .tup _ (vL key d) (qj key d) (by cases d<;>rfl) λj c u aa hu=>by
    cases d with
    |false=>
     cases j with
     |zero=>simp[vL,qj]at aa hu;subst aa;subst hu;exact .int _ _ _
     |succ j=>simp[vL]at aa
    |true=>
     match j,aa,hu with
     |0,aa,hu=>simp[vL,qj]at aa hu;subst aa;subst hu;exact .int _ _ _
     |1,aa,hu=>simp[vL,qj]at aa hu;subst aa;subst hu;exact .bool _ _
     |j+2,aa,_=>simp[vL]at aa
  |succ j=>
   have kI:c1[j+1]?=some (some x):=by rw[L1,List.getElem?_tail]at ak;exact ak
   rw[amZ j x kI];exact((bq.c1 (j+1) x kI).ET (λg _ aJ ag=>aJ (Qq g ag))).gJ Y3 (λ_ h=>h) (λ_ _ h=>h) Y5 (λg aB=>CJ g (Y6 (j+1) x kI g aB))
 .rw[EH j x ak];exact((bq.cf j x ak).ET (λg _ aJ ag=>aJ (Qq g ag))).gJ Y3 (λ_ h=>h) (λ_ _ h=>h) Y5 (λg aB=>CJ g (Y7 j x ak g aB))
 .rcases di id g aB with⟨rfl,rfl⟩|⟨af,ao,a1⟩<;>rcases di eg g dK with⟨rfl,dA⟩|⟨ca,dA,gB⟩
  .rfl
  .exact absurd rfl dA
  .exact absurd dA ao
  .exact bq.inj id eg g a1 gB
 .rw[YZ];rcases di id g aB with⟨_,rfl⟩|⟨_,_,a1⟩
  .exact YX
  .exact bq.lt id g a1
 .have ak:(if id<bY then β id else bD id)=some x:=ak;split at ak
  .exact ep.one id x ak
  .exact bq.one id x ak
def am0(bR:aM P aq)(dS:uG P aq)(aD:aq.j4=[]){key:Int}(aH:q=ra key)(Qn:ch P aq K q.2.1)(Qo:ch P aq K q.2.2){F:jD}
  (hF:∀aj aA rows k r,F aj aA rows k=some r->YQ P aq K key q aj aA rows k=some r):Eh P key F:=by
 intro aj w S B β og aA tm rows args k r l bo us ep k7 l6 ar Ai x4 vN fx M9 xx Cr J4 bu
 obtain⟨k7,iG⟩:=k7
 have he:=hF _ _ _ _ _ bu
 unfold YQ at he
 simp only[ha,nk]at he
 split at he
 .rename_i k3;have k3:=kA k3;rw[bC.force_eq]at he;exact amK bR dS aD aH Qn Qo ep ⟨k7,iG⟩ l6 ar Ai x4 vN fx M9 xx Cr J4 k3 he
 .cases he
end
end Go.Ev
namespace Go.Proofs.YtijdnecnjenleaaGreatDoor
open Go.Ev
variable{ms tab:List AV}{U:List (List UInt8)}{q:List AV}
def kS:List (AV->Bool)->List AV->Bool
 |[],[]=>true
 |f::aC,x::xs=>f x&&kS aC xs
 |_,_=>false
def dN{f:AV->Bool}{aC:List (AV->Bool)}{l:List AV}(h:kS (f::aC) l=true):∃x xs,l=x::xs/\f x=true/\kS aC xs=true:=by
 cases l with
 |nil=>cases h
 |cons x xs=>unfold kS at h;rw[ba]at h;exact⟨x,xs,rfl,h.1,h.2⟩
def am1{l:List AV}(h:kS [] l=true):l=[]:=by
 cases l with
 |nil=>rfl
 |cons x xs=>cases h
def Qr(v:AV):Bool:=match v with
 |.bool _=>true
 |_=>false
def am2{v:AV}(h:Qr v=true):∃b,v=.bool b:=by
 unfold Qr at h;split at h
 .exact⟨_,rfl⟩
 .cases h
def Ak(n:Nat)(v:AV):Bool:=match v with
 |.ptr a 0=>a==n
 |_=>false
def FE{n:Nat}{v:AV}(h:Ak n v=true):v=.ptr n 0:=by
 unfold Ak at h;split at h
 .rw[ic h]
 .cases h
def Qs(n:Nat)(v:AV):Bool:=match v with
 |.own a=>a==n
 |_=>false
def am3{n:Nat}{v:AV}(h:Qs n v=true):v=.own n:=by
 unfold Qs at h;split at h
 .rw[ic h]
 .cases h
def Qt(n:Int)(v:AV):Bool:=match v with
 |.tup [.int .i64 a]=>a==n
 |_=>false
def am4{n:Int}{v:AV}(h:Qt n v=true):v=.tup [.int .i64 n]:=by
 unfold Qt at h;split at h
 .rw[ic h]
 .cases h
def tN(e:AV):Bool:=match e with
 |.tup [.str _,.ab .str (_::_)]=>true
 |_=>false
def mE(tab:List AV)(s:List UInt8):List AV:=bif dq (.str s) tab then(gj (.str s) tab).toList else[]
def Qu(tab:List AV)(FF:List UInt8->Bool):Nat->(List AV×List AV)×List AV->(List AV×List AV)×List AV
 |0,o=>o
 |f+1,((ms,q),out)=>match q with
  |[]=>((ms,[]),out)
  |x::mo=>Qu tab FF f ((mE tab (bm x)).foldl qF (ms,mo),bif FF (bm x)then out++[.str (bm x)]else out)
def r0(e:AV):List UInt8:=bm (eL e)
structure Inv(tab:List AV)(U:List (List UInt8))(ms q:List AV):Prop where
 size:U.length<=5000
 cE:ms.all Qm=true
 nodup:(ms.map r0).Nodup
 met:∀k∈ms.map r0,k∈U
 row:∀x∈q,bm x∈U
 closed:∀s∈U,∀t∈mE tab s,bm t∈U
 Qv:∀s,(mE tab s).length<=100000
def wq(ms q:List AV):Nat:=(5000-ms.length)+q.length
theorem Y8{α:Type}[DecidableEq α]:∀{l U:List α},l.Nodup->(∀x∈l,x∈U)->l.length<=U.length
 |[],_,_,_=>iM _
 |x::l,U,aJ,h=>by rw[A9]at aJ;have ak:=h x vi;have ao:∀y∈l,y∈U.erase x:=λy aN=>(List.mem_erase_of_ne bM).2 (h y (oK _ aN));have a1:=Y8 aJ.2 ao;grind
def Y9{s:List UInt8}:∀{ms:List AV},ms.all Qm=true->(dq (.str s) ms=true↔s∈ms.map r0)
 |[],_=>by simp[dq]
 |e::ms,h=>by
  simp only[lq,ba]at h;rw[dq,nr,Y9 h.2,iZ,gv];have af:=h.1;unfold Qm at af;split at af
  .rename_i k;refine or_congr ?_ Iff.rfl;show(s==k)=true↔s=k;exact h0
  .cases af
def Inv.am5(h:Inv tab U ms q):ms.length<=5000:=by have:=Y8 h.nodup h.met;rw[g']at this;exact lp this h.size
theorem Inv.am6(h:Inv tab U ms q)(e:AV)(he:bm e∈U):Inv tab U (qF (ms,q) e).1 (qF (ms,q) e).2/\wq (qF (ms,q) e).1 (qF (ms,q) e).2=wq ms q:=by
 unfold qF;cases hh:dq (.str (bm e)) ms with
 |true=>exact⟨h,rfl⟩
 |false=>
  simp only[cU];have aJ:bm e∉ms.map r0:=λhm=>by rw[(Y9 h.cE).2 hm]at hh;cases hh
  have ai:(ms++[AV.tup [.str (bm e),.bool true]]).map r0=ms.map r0++[bm e]:=by rw[yK];rfl
  have hi:Inv tab U (ms++[.tup [.str (bm e),.bool true]]) (q++[.str (bm e)]):={
   size:=h.size
   cE:=by rw[List.all_append,h.cE];rfl
   nodup:=by rw[ai,List.nodup_append];refine⟨h.nodup,bb,λa cI b ag awl=>?_⟩;grind
   met:=by
    rw[ai];intro k hm;rcases gD.1 hm with hm|hm
    .exact h.met k hm
    grind
   row:=λx ak=>by
    rcases gD.1 ak with ak|ak
    .exact h.row x ak
    .rw[oM]at ak;rw[ak];exact he
   closed:=h.closed
   Qv:=h.Qv}
  refine⟨hi,?_⟩;have:=hi.am5;unfold wq;grind
def Inv.find{tab:List AV}{U:List (List UInt8)}:∀(es:List AV){ms q:List AV},Inv tab U ms q->(∀t∈es,bm t∈U)->Inv tab U (es.foldl qF (ms,q)).1 (es.foldl qF (ms,q)).2/\wq (es.foldl qF (ms,q)).1 (es.foldl qF (ms,q)).2=wq ms q
 |[],_,_,h,_=>⟨h,rfl⟩
 |e::es,ms,q,h,hu=>by have af:=h.am6 e (hu e vi);rw[jw];have ao:=Inv.find es af.1 λt aQ=>hu t (oK _ aQ);exact⟨ao.1,ao.2.trans af.2⟩
def Inv.tail{x:AV}(h:Inv tab U ms (x::q)):Inv tab U ms q:=⟨h.size,h.cE,h.nodup,h.met,λy aN=>h.row y (oK _ aN),h.closed,h.Qv⟩
def Inv.step{x:AV}(h:Inv tab U ms (x::q)):Inv tab U ((mE tab (bm x)).foldl qF (ms,q)).1 ((mE tab (bm x)).foldl qF (ms,q)).2/\wq ((mE tab (bm x)).foldl qF (ms,q)).1 ((mE tab (bm x)).foldl qF (ms,q)).2+1=wq ms (x::q):=by obtain⟨af,ao⟩:=h.tail.find (mE tab (bm x)) (h.closed _ (h.row x vi));refine⟨af,?_⟩;rw[ao];rfl
def run(tab:List AV)(FF:List UInt8->Bool)(ms q out:List AV):List AV×List AV:=((Qu tab FF (wq ms q) ((ms,q),out)).1.1,(Qu tab FF (wq ms q) ((ms,q),out)).2)
def Qw(e:AV):Bool:=decide (1<=(Ag e).length)&&decide ((Ag e).length<=60)
def am7{s:List UInt8}{x:AV}{xs:List AV}(h:ms.all tN=true):(gG (.str s) (.ab .str (x::xs)) ms).all tN=true:=by
 unfold gG;cases dq (.str s) ms with
 |false=>rw[cU,List.all_append,h];rfl
 |true=>
  rw[b4];have:∀(ms:List AV)(n:Nat),ms.all tN=true->(lK (.ab .str (x::xs)) ms n).all tN=true:=by
   intro ms;induction ms with
   |nil=>intro n _;cases n<;>rfl
   |cons e ms ih=>
    intro n aJ;simp only[lq,ba]at aJ;cases n with
    |zero=>
     simp only[lK,lq,ba];refine⟨?_,aJ.2⟩;have af:=aJ.1;unfold tN at af;split at af
     .rfl
     .cases af
    |succ n=>simp only[lK,lq,ba];exact⟨aJ.1,ih n aJ.2⟩
  exact this _ _ h
theorem am8{e:AV}(h:tN e=true):∃k x xs,e=.tup [.str k,.ab .str (x::xs)]:=by unfold tN at h;grind
theorem CK(k:List UInt8)(x:AV)(xs ms:List AV)(t:List UInt8):mE (.tup [.str k,.ab .str (x::xs)]::ms) t=bif t==k then x::xs else mE ms t:=by
 unfold mE;rw[dq,gj];have e:c9 (.str t) (eL (.tup [.str k,.ab .str (x::xs)]))=(t==k):=rfl;rw[e];cases t==k
 .rfl
 rfl
theorem Y':∀{ms:List AV}(s:List UInt8)(x:AV)(xs:List AV)(t:List UInt8),ms.all tN=true->mE (gG (.str s) (.ab .str (x::xs)) ms) t=bif t==s then x::xs else mE ms t
 |[],s,x,xs,t,_=>CK s x xs [] t
 |e::ms,s,x,xs,t,h=>by
  simp only[lq,ba]at h;obtain⟨k,y,cm,rfl⟩:=am8 h.1;have ih:=Y' (ms:=ms) s x xs t h.2;unfold gG at ih⊢;rw[dq,pB];have aU:c9 (.str s) (eL (.tup [.str k,.ab .str (y::cm)]))=(s==k):=rfl;rw[aU];cases ai:s==k with
  |true=>obtain rfl:=ic ai;rw[DA,b4,b4];show mE (.tup [.str s,.ab .str (x::xs)]::ms) t=_;grind[CK]
  |false=>
   rw[qS,cU];have fx:∀{a:Bool},(t==s)=true->(t==k)=false:=λaQ=>bM;cases hm:dq (.str s) ms with
   |true=>rw[hm,b4]at ih;rw[b4,lK,CK,CK,ih];grind
   |false=>rw[hm,cU]at ih;rw[cU,A1,CK,CK,ih];grind
theorem Za:∀(es ms:List AV),es.all Qw=true->ms.all tN=true->(es.foldl Ah ms).all tN=true/\∀t,mE (es.foldl Ah ms) t=mE ms t\/∃e∈es,mE (es.foldl Ah ms) t=Ag e
 |[],ms,_,h=>⟨h,λt=>.inl rfl⟩
 |e::es,ms,aB,h=>by
  simp only[lq,ba]at aB;obtain⟨x,xs,ak⟩:∃x xs,Ag e=x::xs:=by
   have:=aB.1;unfold Qw at this;rw[ba]at this;have:=bH this.1;cases au:Ag e with
   |nil=>grind
   |cons x xs=>exact⟨x,xs,rfl⟩
  have au:Ah ms e=gG (.str (bm e)) (.ab .str (x::xs)) ms:=by unfold Ah;rw[ak]
  obtain⟨af,ao⟩:=Za es (Ah ms e) aB.2 (by rw[au];exact am7 h);rw[jw];refine⟨af,λt=>?_⟩;grind[Y',List.mem_cons_self,List.mem_cons_of_mem]
theorem tab_spec{es:List AV}(h:es.all Qw=true):(Ql es).all tN=true/\∀t,mE (Ql es) t=[]\/∃e∈es,mE (Ql es) t=Ag e:=by
 obtain⟨af,ao⟩:=Za es [] h rfl;exact⟨af,λt=>by
  rcases ao t with a1|a1
  .exact .inl a1
  .exact .inr a1⟩
def q1(a:List UInt8):List AV:=[.str a]
def am9{aq:Env}{fn:Func}{n site:Nat}{key:Int}{q:Array Tmp×Code×Code}(h:fn.body.map rS=some [q])(aR:aq.j4=[(n,key,site)])(aH:q=ra key):∀c,fn.body=some c->iQ aq none c:=by
 intro c aa mo ma r4 awm he;rw[aa]at h;simp only[jm,ej]at h;rw[h,oM]at ma;subst ma;rw[aR]at he;unfold lH at he;split at he
 .simp only[ej,gU]at he;obtain⟨rfl,rfl⟩:=he;exact⟨rfl,aH⟩
 .cases he
abbrev eR:Sh:=.agg [.str,.int .i64]
def iw(e:AV):Int:=(e.cells.tail.headD .J).toInt
noncomputable def ana:Env:={pure:=[(29,aK pQ),(39,aK o9),(53,aK Fs),(58,aK Fu)]}
def g17:aM Tryz.prog ana:=aM.br (aM.br (aM.br (aM.br bV Yc) P0) rz) ry
def J9:shOf Tryz.prog depth 3=.int .i64:=aG
noncomputable def Zb:Code:=((Tryz.f18.body.map c7).getD []).headD .skip
def Zc:List AV->List (Option Row)->a6 cy
 |[.ab (.agg [.str,.int .i64]) es,.str d,.int .i64 z,.int .i64 i],[]=>
  .bt (bl es.length i es.length) (h8 (λi=>kx d (es.getD i .J)) es.length (λq=>.leaf (.ret,[.ab eR es,.str d,.int .i64 (q:Nat),.int .i64 (q:Nat)],[]))
   (.leaf (.exit 0,[.ab eR es,.str d,.int .i64 z,.int .i64 es.length],[])) i.toNat)
 |_,_=>.no
def J':Ev.Loop:=⟨{len:=20,dr:=[0,1,4,5]},dP Zc⟩
def anb(vs:List AV)(_:List (Option Row)):Nat:=match vs with
 |[.ab _ es,_,_,.int _ i]=>((es.length:Int)-i).toNat
 |_=>0
def anc:dj Tryz.prog mC [(2,J')] Zb J':=by
 refine ed bV.dX rfl (ch.nil aG) anb (λaj vs rs k r h=>?_);unfold Zc at h;split at h
 .rename_i es d z i;obtain⟨aa,ai⟩:=bz h;obtain⟨_,an,j,rfl,aP⟩:=eA aa;rw[bK]at ai;refine bn (b:=have az:=(Sh.agg [.str,.int .i64]);have aF:=(es.length:Int);have aI:=(j:Int);have av:=(IntKind.i64.wrap (aI+(1:Int)));bif decide (aI<aF)then bif inb aI es.length then bif(bm (es.getD j .J))==d then k .ret [.ab az es,.str d,.I aI,.I aI] []else bif decide ((aF-IntKind.i64.wrap (aI+(1:Int))).toNat<(aF-aI).toNat)then bif bl aF av es.length then bif(bx (λi=>kx d (es.getD i .J)) es.length av.toNat).isSome then k .ret [.ab az es,.str d,.I (((bx (λi=>kx d (es.getD i .J)) es.length av.toNat).getD 0):Int),.I (((bx (λi=>kx d (es.getD i .J)) es.length av.toNat).getD 0):Int)] []else k (.exit 0) [.ab az es,.str d,.I z,.I aF] []else none else none else none else k (.exit 0) [.ab az es,.str d,.I z,.I aI] []) ?_;conv=>zeta
  rw[<-ai];by_cases aL:j<es.length
  .obtain⟨aU,bc,bw,bQ,bN⟩:=ew aL an;rw[j2 _ _ _ _ _ aL];have mD:kx d (es.getD j .J)=(bm (es.getD j .J)==d):=rfl;simp only[aU,bc,bw,bQ,bN,mD,b4,bK];generalize(bm (es.getD j .J)==d)=bJ;cases bJ<;>rfl
  .obtain rfl:j=es.length:=al;exact jo
 .cases h
def Ka:List AV->a6 AV
 |[.ab (.agg [.str,.int .i64]) es,.str d]=>.bt (small es.length) (.leaf (.int .i64 (kv (iT d es 0))))
 |_=>.no
def ane:SumOK Tryz.prog 18 (aK Ka)/\b5 (aK Ka):=by
 refine iH (K:=[(2,J')]) (b:=Zb) (l:=J') bV Tryz.func18 aG aG anc λaj aA k r h=>?_;unfold Ka at h;split at h
 .rename_i es d;obtain⟨aa,ai⟩:=bz h;refine bn (b:=bif bl (es.length:Int) (0:Int) es.length then bif(bx (λi=>kx d (es.getD i .J)) es.length 0).isSome then k (.I (((bx (λi=>kx d (es.getD i .J)) es.length 0).getD 0):Int))else k (.I (-1:Int))else none) ?_;rw[<-ai,e1 aa];show(bif true then bif(iT d es 0).isSome then k (.int .i64 (((iT d es 0).getD 0:Nat):Int))else k (.int .i64 (-1))else none)=_;cases iT d es 0<;>rfl
 .cases h
open Tryz
noncomputable def Zd:Env:={pure:=[(123,jc prog mC [] Tryz.f123)]}
def Ze:aM prog Zd:=aM.br bV (inl bV Tryz.func123 aG)
noncomputable def Zf:Code:=((Tryz.f157.body.map c7).getD []).headD .skip
def Zg:List AV->List (Option Row)->a6 cy
 |[.ab (.agg [.str,.int .i64]) es,.fn 123 [.ref [.str d,.int .i64 c]],.int .i64 z,.int .i64 n,.int .i64 i],[]=>
  .bt (bl n i es.length) (h8 (λi=>kx d (es.getD i .J)) es.length (λq=>.leaf (.ret,[.ab eR es,.fn 123 [.ref [.str d,.int .i64 c]],.int .i64 (q:Nat),.int .i64 es.length,.int .i64 (q:Nat)],[]))
   (.leaf (.exit 0,[.ab eR es,.fn 123 [.ref [.str d,.int .i64 c]],.int .i64 z,.int .i64 es.length,.int .i64 es.length],[])) i.toNat)
 |_,_=>.no
def Kb:Ev.Loop:=⟨{len:=19,dr:=[0,1,4,7,8]},dP Zg⟩
def anf:dj prog Zd [(2,Kb)] Zf Kb:=by
 refine ed Ze.dX rfl (ch.nil aG) CG (λaj vs rs k r h=>?_);unfold Zg at h;split at h
 .rename_i es d c z n i;obtain⟨aa,ai⟩:=bz h;obtain⟨rfl,an,j,rfl,aP⟩:=eA aa;rw[bK]at ai;refine bn (b:=have av:=(es.length:Int);have aF:=[AV.ref [.str d,.I c]];have aI:=(Sh.agg [.str,.int .i64]);have aO:=(j:Int);have az:=(IntKind.i64.wrap (aO+(1:Int)));bif decide (aO<av)then bif inb aO es.length then bif(bm (es.getD j .J))==d then k .ret [.ab aI es,.fn 123 aF,.I aO,.I av,.I aO] []else bif decide ((av-IntKind.i64.wrap (aO+(1:Int))).toNat<(av-aO).toNat)then bif bl av az es.length then bif(bx (λi=>kx d (es.getD i .J)) es.length az.toNat).isSome then k .ret [.ab aI es,.fn 123 aF,.I (((bx (λi=>kx d (es.getD i .J)) es.length az.toNat).getD 0):Int),.I av,.I (((bx (λi=>kx d (es.getD i .J)) es.length az.toNat).getD 0):Int)] []else k (.exit 0) [.ab aI es,.fn 123 aF,.I z,.I av,.I av] []else none else none else none else k (.exit 0) [.ab aI es,.fn 123 aF,.I z,.I av,.I aO] []) ?_;conv=>zeta
  rw[<-ai];by_cases aL:j<es.length
  .obtain⟨aU,bc,bw,bQ,bN⟩:=ew aL an;rw[j2 _ _ _ _ _ aL];have mD:kx d (es.getD j .J)=(bm (es.getD j .J)==d):=rfl;simp only[aU,bc,bw,bQ,bN,mD,b4,bK];generalize(bm (es.getD j .J)==d)=bJ;cases bJ<;>rfl
  .obtain rfl:j=es.length:=al;exact jo
 .cases h
def Qx:List AV->a6 AV
 |[.ab (.agg [.str,.int .i64]) es,.fn 123 [.ref [.str d,.int .i64 _]]]=>.bt (small es.length) (.leaf (.int .i64 (kv (iT d es 0))))
 |_=>.no
def ang:SumOK prog 157 (aK Qx)/\b5 (aK Qx):=by
 refine iH (K:=[(2,Kb)]) (b:=Zf) (l:=Kb) Ze Tryz.func157 aG aG anf λaj aA k r h=>?_;unfold Qx at h;split at h
 .rename_i es d c;obtain⟨aa,ai⟩:=bz h;refine bn (b:=bif bl (es.length:Int) (0:Int) es.length then bif(bx (λi=>kx d (es.getD i .J)) es.length 0).isSome then k (.I (((bx (λi=>kx d (es.getD i .J)) es.length 0).getD 0):Int))else k (.I (-1:Int))else none) ?_;rw[<-ai,e1 aa];show(bif true then bif(iT d es 0).isSome then k (.int .i64 (((iT d es 0).getD 0:Nat):Int))else k (.int .i64 (-1))else none)=_;cases iT d es 0<;>rfl
 .cases h
def Kc:List AV->a6 AV
 |[.ab (.agg [.str,.int .i64]) es,.fn 123 [.ref [.str d,.int .i64 c]]]=>.bt (small es.length) (.leaf (.bool (decide (kv (iT d es 0)>=0))))
 |_=>.no
def anh:SumOK prog 122 (aK Kc)/\b5 (aK Kc):=by
 refine eJ (aM.br bV ang) Tryz.func122 aG λaj aA k r h=>?_;unfold Kc at h;split at h
 .rename_i es d c;obtain⟨aa,ai⟩:=bz h;refine bn (b:=bif small es.length then k (.bool (decide (kv (iT d es 0)>=(0:Int))))else none) ?_;rw[<-ai,aa];rfl
 .cases h
noncomputable def Zh:Env:={pure:=[(53,aK Fs),(58,aK Fu),(29,aK pQ),(39,aK o9),(122,aK Kc)]}
def Zi:aM prog Zh:=aM.br (aM.br (aM.br (aM.br (aM.br bV anh) rz) ry) Yc) P0
def wu(es ds:List AV)(i:Nat):Int:=bif !sD (bm (ds.getD i .J))then 10 else bif !Ft (iw (ds.getD i .J))then 3 else bif decide (kv (iT (bm (ds.getD i .J)) (es.take i) 0)>=0)then 7 else 0
def FG(es ds:List AV)(i:Nat):Bool:=wu es ds i !=0
noncomputable def Zj:Code:=((Tryz.f79.body.map c7).getD []).headD .skip
def Zk:List AV->List (Option Row)->a6 cy
 |[.ab (.agg [.str,.int .i64]) es,.ptr 0 0,.ab (.agg [.str,.int .i64]) ds,.int .i64 n,.int .i64 i],[some (.box false [.int .i64 0,.int .i64 0])]=>
  .bt (bl n i ds.length&&(ds.all eh&&(decide (es.length=ds.length)))) (h8 (FG es ds) ds.length (λq=>.leaf (.ret,[.ab eR es,.ptr 0 0,.ab eR ds,.int .i64 ds.length,.int .i64 (q:Nat)],[some (.box false [.int .i64 (wu es ds q),.int .i64 (q:Nat)])]))
   (.leaf (.exit 0,[.ab eR es,.ptr 0 0,.ab eR ds,.int .i64 ds.length,.int .i64 ds.length],[some (.box false [.int .i64 0,.int .i64 0])])) i.toNat)
 |_,_=>.no
def Kd:Ev.Loop:=⟨{len:=36,dr:=[0,2,5,6,7],rows:=[0]},dP Zk⟩
def ani:dj prog Zh [(2,Kd)] Zj Kd:=by
 refine ed Zi.dX rfl (ch.nil aG) CG (λaj vs rs k r h=>?_);unfold Zk at h;split at h
 .rename_i es ds n i;obtain⟨aa,ai⟩:=bz h;simp only[ba,fD]at aa;obtain⟨aa,cn,gp⟩:=aa;obtain⟨rfl,an,j,rfl,aP⟩:=eA aa;rw[bK]at ai;refine bn (b:=have aF:=(Sh.agg [.str,.int .i64]);have aI:=(ds.length:Int);have aO:=[some (Row.box false [.I 0,.I 0])];have aZ:=(List.take (j-Int.toNat (0:Int)) (List.drop 0 es));have bd:=(j:Int);have av:=[AV.ab aF es,.ptr 0 0,.ab aF ds,.I aI,.I bd];have bk:=(ds.getD j .J);have bI:=(IntKind.i64.wrap (bd+(1:Int)));have az:=(bx (FG es ds) ds.length bI.toNat);have bF:=(az.getD 0);bif decide (bd<aI)then bif inb bd ds.length then bif ee (bm bk).length then bif !sD (bm bk)then k .ret av [some (.box false [.I 10,.I bd])]else bif !Ft (iw bk)then k .ret av [some (.box false [.I 3,.I bd])]else bif slb (0:Int) bd es.length then bif small aZ.length then bif decide (kv (iT (bm bk) aZ 0)>=(0:Int))then k .ret av [some (.box false [.I 7,.I bd])]else bif decide ((aI-IntKind.i64.wrap (bd+(1:Int))).toNat<(aI-bd).toNat)then bif bl aI bI ds.length&&(ds.all eh&&decide (es.length=ds.length))then bif az.isSome then k .ret [.ab aF es,.ptr 0 0,.ab aF ds,.I aI,.I (bF:Int)] [some (.box false [.I (wu es ds bF),.I (bF:Int)])]else k (.exit 0) [.ab aF es,.ptr 0 0,.ab aF ds,.I aI,.I aI] aO else none else none else none else none else none else none else k (.exit 0) av aO) ?_;conv=>zeta
  rw[<-ai];by_cases aL:j<ds.length
  .obtain⟨aU,bc,bw,bQ,bN⟩:=ew aL an;rw[j2 _ _ _ _ _ aL];have fY:ee (bm (ds.getD j .J)).length=true:=jg cn aL;have pR:slb 0 (j:Int) es.length=true:=mB al al al;have pS:small (es.take j).length=true:=aS yQ;have x5:List.take (j-Int.toNat 0) (List.drop 0 es)=es.take j:=rfl;have Ke:decide (es.length=ds.length)=true:=aS gp;have kT:FG es ds j=(wu es ds j !=0):=rfl;have x6:wu es ds j=bif !sD (bm (ds.getD j .J))then 10 else bif !Ft (iw (ds.getD j .J))then 3 else bif decide (kv (iT (bm (ds.getD j .J)) (es.take j) 0)>=0)then 7 else 0:=rfl;simp only[aU,bc,bw,bQ,bN,fY,pR,x5,pS,Ke,cn,kT,x6,b4,bK,jz];generalize sD (bm (ds.getD j .J))=bJ;generalize Ft (iw (ds.getD j .J))=a2;generalize decide (kv (iT (bm (ds.getD j .J)) (es.take j) 0)>=0)=a3;cases bJ<;>cases a2<;>cases a3<;>rfl
  .obtain rfl:j=ds.length:=al;exact jo
 .cases h
def x7(es:List AV):Option Nat:=bx (FG es es) es.length 0
def Kf(es:List AV):Int:=match x7 es with
 |some q=>wu es es q
 |none=>0
def Kg(es:List AV):Int:=match x7 es with
 |some q=>(q:Nat)
 |none=>0
def Qy:List AV->a6 AV
 |[.ab (.agg [.str,.int .i64]) es]=>.bt (small es.length&&es.all eh) (.leaf (.agg [.int .i64 (Kf es),.int .i64 (Kg es)]))
 |_=>.no
def anj:SumOK prog 79 (aK Qy)/\b5 (aK Qy):=by
 refine iH (K:=[(2,Kd)]) (b:=Zj) (l:=Kd) Zi Tryz.func79 aG aG ani λaj aA k r h=>?_;unfold Qy at h;split at h
 .rename_i es;obtain⟨aa,ai⟩:=bz h;simp only[ba]at aa;refine bn (b:=have av:=(bx (FG es es) es.length 0);bif bl (es.length:Int) (0:Int) es.length&&(es.all eh&&decide (es.length=es.length))then bif av.isSome then k (.agg [.I (wu es es (av.getD 0)),.I ((av.getD 0):Int)])else k (.agg [.I 0,.I 0])else none) ?_;conv=>zeta
  rw[<-ai,e1 aa.1,aa.2,aS (rfl:es.length=es.length)];show(bif true then bif(x7 es).isSome then k (.agg [.int .i64 (wu es es ((x7 es).getD 0)),.int .i64 (((x7 es).getD 0:Nat):Int)])else k (.agg [.int .i64 0,.int .i64 0])else none)=k (.agg [.int .i64 (match x7 es with|some q=>wu es es q|none=>0),.int .i64 (match x7 es with|some q=>((q:Nat):Int)|none=>0)]);cases x7 es<;>rfl
 .cases h
def sH(n:Int):Bool:=wj n||(n==45||(n==95||n==46))
def Kh:List AV->a6 AV
 |[.int .u8 n]=>.leaf (.bool (sH n))
 |_=>.no
def ank:SumOK prog 121 (aK Kh)/\b5 (aK Kh):=by
 refine eJ (aM.br bV X0) Tryz.func121 aG λaj aA k r h=>?_;unfold Kh at h;split at h
 .rename_i n;have ai:=h;refine bn (b:=bif wj n then k (.bool true)else bif n==45 then k (.bool true)else bif n==95 then k (.bool true)else k (.bool (n==46))) ?_;rw[<-ai];show _=k (.bool (wj n||(n==45||(n==95||n==46))));cases wj n<;>cases n==45<;>cases n==95<;>rfl
 .cases h
noncomputable def Zl:Env:={pure:=[(121,aK Kh)]}
def Zm:aM prog Zl:=aM.br bV ank
def Zn:List AV->List (Option Row)->a6 cy
 |[.str s,.fn 121 [],.bool b,.int .i64 n,.int .i64 i],[]=>.bt (bl n i s.length) (h8 (λi=> !sH (b8 s i)) s.length (λq=>.leaf (.ret,[.str s,.fn 121 [],.bool false,.int .i64 n,.int .i64 (q:Nat)],[])) (.leaf (.exit 0,[.str s,.fn 121 [],.bool b,.int .i64 n,.int .i64 s.length],[])) i.toNat)
 |_,_=>.no
def Ki:Ev.Loop:=⟨{len:=18,dr:=[0,1,4,7,8]},dP Zn⟩
def anl:dj prog Zl [(2,Ki)] Cz Ki:=by
 refine ed Zm.dX rfl (ch.nil aG) PN (λaj vs rs k r h=>?_);unfold Zn at h;split at h
 .rename_i s b n i;obtain⟨aa,ai⟩:=bz h;obtain⟨rfl,an,j,rfl,aP⟩:=eA aa;rw[bK]at ai;refine bn (b:=have av:=(s.length:Int);have aF:=(j:Int);have az:=(IntKind.i64.wrap (aF+(1:Int)));bif decide (aF<av)then bif inb aF s.length then bif !sH ((s.getD j (0:UInt8)).toNat:Int)then k .ret [.str s,.fn 121 [],.bool false,.I av,.I aF] []else bif decide ((av-IntKind.i64.wrap (aF+(1:Int))).toNat<(av-aF).toNat)then bif bl av az s.length then bif(bx (λi=> !sH (b8 s i)) s.length az.toNat).isSome then k .ret [.str s,.fn 121 [],.bool false,.I av,.I (((bx (λi=> !sH (b8 s i)) s.length az.toNat).getD 0):Int)] []else k (.exit 0) [.str s,.fn 121 [],.bool b,.I av,.I av] []else none else none else none else k (.exit 0) [.str s,.fn 121 [],.bool b,.I av,.I aF] []) ?_;conv=>zeta
  rw[<-ai];by_cases aL:j<s.length
  .exact Hn
  .obtain rfl:j=s.length:=al;exact jo
 .cases h
def Qz:List AV->a6 AV
 |[.str s,.fn 121 []]=>.bt (small s.length) (.leaf (.bool (jU sH s)))
 |_=>.no
def anm:SumOK prog 84 (aK Qz)/\b5 (aK Qz):=by
 refine iH (K:=[(2,Ki)]) (b:=Cz) (l:=Ki) Zm Tryz.func84 aG aG anl λaj aA k r h=>?_;unfold Qz at h;split at h
 .rename_i s;obtain⟨aa,ai⟩:=bz h;refine bn (b:=bif bl (s.length:Int) (0:Int) s.length then bif(bx (λi=> !sH (b8 s i)) s.length 0).isSome then k (.bool false)else k (.bool true)else none) ?_;rw[<-ai,e1 aa];show _=k (.bool (jU sH s));unfold jU;cases(bx (λi=> !sH (b8 s i)) s.length 0).isSome<;>rfl
 .cases h
def FH(s:List UInt8):Bool:= !(s==[])&&(decide ((s.length:Int)<=60)&&jU sH s)
def QA:List AV->a6 AV
 |[.str s]=>.bt (small s.length) (.leaf (.bool (FH s)))
 |_=>.no
def ann:SumOK prog 78 (aK QA)/\b5 (aK QA):=by
 refine eJ (aM.br bV anm) Tryz.func78 aG λaj aA k r h=>?_;unfold QA at h;split at h
 .rename_i s;obtain⟨aa,ai⟩:=bz h;refine bn (b:=bif !s==([]:List UInt8)then bif decide ((s.length:Int)<=(60:Int))then bif small s.length then k (.bool (jU sH s))else none else k (.bool false)else k (.bool false)) ?_;rw[<-ai,aa];show _=k (.bool (!(s==[])&&(decide ((s.length:Int)<=60)&&jU sH s)));cases s==[]<;>cases decide ((s.length:Int)<=60)<;>rfl
 .cases h
def ky(f:List UInt8)(es:List AV)(d:List UInt8):Int×Int:=bif !(f==[])&& !sD f then(10,-10)else bif(bif decide ((es.length:Int)<1)then true else decide ((es.length:Int)>60))then(2,-11)else bif !(d==[])&& !FH d then(10,-12)else(Kf es,Kg es)
def Kj:List AV->a6 AV
 |[.agg [.str f,.ab (.agg [.str,.int .i64]) es,.str d]]=>.bt (ee f.length&&(small es.length&&(es.all eh&&ee d.length))) (.leaf (.agg [.int .i64 (ky f es d).1,.int .i64 (ky f es d).2]))
 |_=>.no
def Zo:SumOK prog 48 (aK Kj)/\b5 (aK Kj):=by
 refine eJ (aM.br (aM.br (aM.br (aM.br bV anj) ann) ry) P0) Tryz.func48 aG λaj aA k r h=>?_;unfold Kj at h;split at h
 .rename_i f es d;obtain⟨aa,ai⟩:=bz h;simp only[ba]at aa;obtain⟨af,ao,a1,ca⟩:=aa;have dA:small d.length=true:=aS (by have:=bH ca;omega);refine bn (b:=have az:=bif small es.length&&es.all eh then k (.agg [.I (Kf es),.I (Kg es)])else none;have aF:=(AV.agg [.I 2,.I (-11:Int)]);have av:=bif decide ((es.length:Int)<(1:Int))then k aF else bif decide ((es.length:Int)>(60:Int))then k aF else bif !d==([]:List UInt8)then bif small d.length then bif !FH d then k (.agg [.I 10,.I (-12:Int)])else az else none else az;bif !f==([]:List UInt8)then bif ee f.length then bif !sD f then k (.agg [.I 10,.I (-10:Int)])else av else none else av) ?_;conv=>zeta
  rw[<-ai,af,ao,a1,dA];have aU:ky f es d=bif !(f==[])&& !sD f then(10,-10)else bif(bif decide ((es.length:Int)<1)then true else decide ((es.length:Int)>60))then(2,-11)else bif !(d==[])&& !FH d then(10,-12)else(Kf es,Kg es):=rfl;rw[aU];generalize decide ((es.length:Int)<1)=bJ;generalize decide ((es.length:Int)>60)=a2;cases f==[]<;>cases sD f<;>cases bJ<;>cases a2<;>cases d==[]<;>cases FH d<;>rfl
 .cases h
def iU(f:List UInt8)(es:List AV)(d:List UInt8)(aC bs:List AV):Int×Int:=bif(ky f es d).1 !=0 then ky f es d else bif wm aC bs !=0 then(wm aC bs,-30)else(0,0)
def FI:List AV->a6 AV
 |[.agg [.str f,.ab (.agg [.str,.int .i64]) es,.str d,.ab (.agg [.str,.str]) aC,.ab (.int .u8) bs]]=>.bt ((ee f.length&&(small es.length&&(es.all eh&&ee d.length)))&&(small aC.length&&(aC.all okF&&decide (bs.length<=141000000000000)))) (.leaf (.agg [.int .i64 (iU f es d aC bs).1,.int .i64 (iU f es d aC bs).2]))
 |_=>.no
def QB:SumOK prog 65 (aK FI)/\b5 (aK FI):=by
 refine eJ (aM.br (aM.br (aM.br (aM.br (aM.br bV amF) Zo) rz) ry) uU) Tryz.func65 aG λaj aA k r h=>?_;unfold FI at h;split at h
 .rename_i f es d aC bs;obtain⟨aa,ai⟩:=bz h;rw[ba]at aa;refine bn (b:=bif ee f.length&&(small es.length&&(es.all eh&&ee d.length))then bif(ky f es d).fst !=0 then k (.agg [.I (ky f es d).fst,.I (ky f es d).snd])else bif small aC.length&&(aC.all okF&&decide (bs.length<=141000000000000))then bif wm aC bs !=0 then k (.agg [.I (wm aC bs),.I (-30:Int)])else k (.agg [.I 0,.I 0])else none else none) ?_;rw[<-ai,aa.1,aa.2];have aU:iU f es d aC bs=bif(ky f es d).1 !=0 then ky f es d else bif wm aC bs !=0 then(wm aC bs,-30)else(0,0):=rfl;rw[aU];cases(ky f es d).1 !=0<;>cases wm aC bs !=0<;>rfl
 .cases h
def eG(n:Int):Bool:=decide (n≥-68719476736)&&decide (n<=68719476736)
def uY:List AV->a6 AV
 |[.int .i64 n]=>.leaf (.bool (eG n))
 |_=>.no
theorem CL:SumOK prog 28 (aK uY)/\b5 (aK uY):=by
 refine eJ bV Tryz.func28 aG λaj aA k r h=>?_;unfold uY at h;split at h
 .rename_i n;have ai:=h;refine bn (b:=bif decide (n>=(-68719476736:Int))then k (.bool (decide (n<=(68719476736:Int))))else k (.bool false)) ?_;rw[<-ai];show _=k (.bool (decide (n≥-68719476736)&&decide (n<=68719476736)));grind
 .cases h
def Al:List AV->a6 AV
 |[.str s]=>.bt (ee s.length) (.leaf (.str (cC s)))
 |_=>.no
def QC:SumOK prog 72 (aK Al)/\b5 (aK Al):=by
 refine eJ (aM.br bV PZ) Tryz.func72 aG λaj aA k r h=>?_;unfold Al at h;split at h
 .rename_i s;obtain⟨aa,ai⟩:=bz h;refine bn (b:=bif ee s.length then k (.str (cC s))else none) ?_;rw[<-ai,aa];rfl
 .cases h
abbrev fW:Sh:=.agg [.str,.int .i64,.int .i64,.bool]
def dC(e:AV):Int:=(e.cells.tail.tail.headD .J).toInt
def gl(e:AV):Bool:=(e.cells.tail.tail.tail.headD .J).toBool
def opn(ws:List AV)(i:Nat):Bool:=(ws.take i).any λw=>dC w==0
theorem ano(ws:List AV)(i:Nat)(h:i<ws.length):opn ws (i+1)=(opn ws i||dC (ws.getD i .J)==0):=by grind[opn,List.take_succ_eq_append_getElem,List.getD,List.getElem?_eq_getElem]
def nQ(ae ws:List AV)(i:Nat):Bool:= !(bm (ws.getD i .J)==bm (ae.getD i .J)&&(iw (ws.getD i .J)==iw (ae.getD i .J)&&true))||((dC (ws.getD i .J)!=0&&(dC (ws.getD i .J)!=1&&dC (ws.getD i .J)!=3))||(gl (ws.getD i .J)&&dC (ws.getD i .J)!=0))
noncomputable def Zp:Code:=((Tryz.f46.body.map c7).getD []).headD .skip
def Zq:List AV->List (Option Row)->a6 cy
 |[.bool z,.ab (.agg [.str,.int .i64]) ae,.bool op,.ab (.agg [.str,.int .i64,.int .i64,.bool]) ws,.int .i64 n,.int .i64 i],[]=>
  .bt (bl n i ws.length&&(decide (ae.length=ws.length)&&op==opn ws i.toNat)) (h8 (nQ ae ws) ws.length (λq=>.leaf (.ret,[.bool false,.ab eR ae,.bool (opn ws q),.ab fW ws,.int .i64 ws.length,.int .i64 (q:Nat)],[]))
   (.leaf (.exit 0,[.bool z,.ab eR ae,.bool (opn ws ws.length),.ab fW ws,.int .i64 ws.length,.int .i64 ws.length],[])) i.toNat)
 |_,_=>.no
def Kk:Ev.Loop:=⟨{len:=64,dr:=[2,3,4,18,19,20]},dP Zq⟩
def anp(vs:List AV)(_:List (Option Row)):Nat:=match vs with
 |[_,_,_,_,.int _ n,.int _ i]=>(n-i).toNat
 |_=>0
def anq:dj prog mC [(6,Kk)] Zp Kk:=by
 refine ed bV.dX rfl (ch.nil aG) anp (λaj vs rs k r h=>?_);unfold Zq at h;split at h
 .rename_i z ae op ws n i;obtain⟨aa,ai⟩:=bz h;simp only[ba,fD]at aa;obtain⟨aa,gp,mv⟩:=aa;obtain⟨rfl,an,j,rfl,aP⟩:=eA aa;rw[bK]at ai mv;obtain rfl:=ic mv;refine bn (b:=have aZ:=(ws.length:Int);have bd:=(Sh.agg [.str,.int .i64,.int .i64,.bool]);have bk:=(ws.getD j .J);have b3:=(Sh.agg [.str,.int .i64]);have cd:=(j:Int);have az:=[AV.bool false,.ab b3 ae,.bool (opn ws j),.ab bd ws,.I aZ,.I cd];have aO:=(IntKind.i64.wrap (cd+(1:Int)));have bF:=(bx (nQ ae ws) ws.length aO.toNat);have aF:=bif bF.isSome then k .ret [.bool false,.ab b3 ae,.bool (opn ws (bF.getD 0)),.ab bd ws,.I aZ,.I ((bF.getD 0):Int)] []else k (.exit 0) [.bool z,.ab b3 ae,.bool (opn ws ws.length),.ab bd ws,.I aZ,.I aZ] [];have bI:=decide ((aZ-IntKind.i64.wrap (cd+(1:Int))).toNat<(aZ-cd).toNat);have av:=bif opn ws j then bif bI then bif bl aZ aO ws.length&&(decide (ae.length=ws.length)&&true==opn ws aO.toNat)then aF else none else none else bif bI then bif bl aZ aO ws.length&&(decide (ae.length=ws.length)&&((dC bk)==0)==opn ws aO.toNat)then aF else none else none;have aI:=bif(gl bk)then bif(dC bk)!=0 then k .ret az []else av else av;bif decide (cd<aZ)then bif inb cd ws.length then bif inb cd ae.length then bif !((bm bk)==(bm (ae.getD j .J))&&((iw bk)==(iw (ae.getD j .J))&&true))then k .ret az []else bif(dC bk)!=0 then bif(dC bk)!=1 then bif(dC bk)!=3 then k .ret az []else aI else aI else aI else none else none else k (.exit 0) [.bool z,.ab b3 ae,.bool (opn ws j),.ab bd ws,.I aZ,.I cd] []) ?_;conv=>zeta
  rw[<-ai];by_cases aL:j<ws.length
  .obtain⟨aU,bc,bw,bQ,bN⟩:=ew aL an;rw[j2 _ _ _ _ _ aL];have pR:inb (j:Int) ae.length=true:=ie al al;have Ke:decide (ae.length=ws.length)=true:=aS gp;have anr:=ano ws j aL;have kT:nQ ae ws j=(!(bm (ws.getD j .J)==bm (ae.getD j .J)&&(iw (ws.getD j .J)==iw (ae.getD j .J)&&true))||((!(dC (ws.getD j .J)==0)&&(!(dC (ws.getD j .J)==1)&& !(dC (ws.getD j .J)==3)))||(gl (ws.getD j .J)&& !(dC (ws.getD j .J)==0)))):=rfl;simp only[bne,aU,bc,bw,bQ,bN,pR,Ke,anr,kT,b4,bK,nk];generalize(bm (ws.getD j .J)==bm (ae.getD j .J))=bJ;generalize(iw (ws.getD j .J)==iw (ae.getD j .J))=a2;generalize(dC (ws.getD j .J)==0)=a3;generalize(dC (ws.getD j .J)==1)=a4;generalize(dC (ws.getD j .J)==3)=a5;generalize gl (ws.getD j .J)=CM;generalize opn ws j=Kl
   first
    |(cases bJ<;>cases a2<;>cases a3<;>cases a4<;>cases a5<;>cases CM<;>cases Kl<;>rfl)
    |skip
  .obtain rfl:j=ws.length:=al;exact jo
 .cases h
def jV(ae ws:List AV):Bool:=decide (ae.length=ws.length)&&(!(bx (nQ ae ws) ws.length 0).isSome&&opn ws ws.length)
def CN:List AV->a6 AV
 |[.agg [.int .i64 _,.str _,.ab (.agg [.str,.int .i64]) ae,.str _,.ab (.agg [.str,.str]) _,.ab (.int .u8) _,.int .i64 _,.int .i64 _,.int .i64 _,.ab (.agg [.str,.int .i64,.int .i64,.bool]) ws]]=>.bt (small ws.length) (.leaf (.bool (jV ae ws)))
 |_=>.no
def Zr:SumOK prog 46 (aK CN)/\b5 (aK CN):=by
 refine iH (K:=[(6,Kk)]) (b:=Zp) (l:=Kk) bV Tryz.func46 aG aG anq λaj aA k r h=>?_;unfold CN at h;split at h
 .rename_i n0 f ae d aC bs b0 bS n3 ws;obtain⟨aa,ai⟩:=bz h;refine bn (b:=bif(ws.length:Int)!=(ae.length:Int)then k (.bool false)else bif bl (ws.length:Int) (0:Int) ws.length&&(decide (ae.length=ws.length)&&false==opn ws 0)then bif(bx (nQ ae ws) ws.length 0).isSome then k (.bool false)else k (.bool (opn ws ws.length))else none) ?_;rw[<-ai,e1 aa];unfold jV;by_cases he:ae.length=ws.length
  .have aU:((ws.length:Int)!=(ae.length:Int))=false:=by rw[he];exact GL _
   have bc:decide (ae.length=ws.length)=true:=aS he;rw[aU,bc];show(bif true then bif(bx (nQ ae ws) ws.length 0).isSome then k (.bool false)else k (.bool (opn ws ws.length))else none)=k (.bool (true&&(!(bx (nQ ae ws) ws.length 0).isSome&&opn ws ws.length)));cases(bx (nQ ae ws) ws.length 0).isSome<;>rfl
  .have aU:((ws.length:Int)!=(ae.length:Int))=true:=yI.2 al;have bc:decide (ae.length=ws.length)=false:=cZ he;rw[aU,bc];rfl
 .cases h
open IntKind
abbrev fb:Sh:=.agg [.str,.str]
abbrev db:Sh:=.agg [.int .i64,.str,.slice eR,.str,.slice fb,.slice (.int .u8),.int .i64,.int .i64,.int .i64,.slice fW]
noncomputable def Zs:Env:={pure:=[(27,aK rv),(28,aK uY),(29,aK pQ),(39,aK o9),(46,aK CN),(65,aK FI)]}
def Zt:aM Tryz.prog Zs:=aM.br (aM.br (aM.br (aM.br (aM.br (aM.br bV QB) Zr) rz) ry) CL) uU
noncomputable def Zu:Code:=((Tryz.f26.body.map c7).getD []).headD .skip
def aW(e:AV):Int:=(e.cells.headD .J).toInt
def kT(e:AV):List UInt8:=(e.cells.tail.headD .J).toStr
def eP(e:AV):List AV:=(e.cells.tail.tail.headD .J).toList
def fp(e:AV):List UInt8:=(e.cells.tail.tail.tail.headD .J).toStr
def ix(e:AV):List AV:=(e.cells.tail.tail.tail.tail.headD .J).toList
def iV(e:AV):List AV:=(e.cells.tail.tail.tail.tail.tail.headD .J).toList
def fA(e:AV):Int:=(e.cells.tail.tail.tail.tail.tail.tail.headD .J).toInt
def hK(e:AV):Int:=(e.cells.tail.tail.tail.tail.tail.tail.tail.headD .J).toInt
def iW(e:AV):Int:=(e.cells.tail.tail.tail.tail.tail.tail.tail.tail.headD .J).toInt
def bL(e:AV):List AV:=(e.cells.tail.tail.tail.tail.tail.tail.tail.tail.tail.headD .J).toList
def pT(es:List AV):Nat->Int
 |0=> -1
 |i+1=>aW (es.getD i .J)
def FJ(e:AV):Int:=(iU (kT e) (eP e) (fp e) (ix e) (iV e)).1
def qH(nx:Int)(es:List AV)(i:Nat):Int:=bif FJ (es.getD i .J)!=0 then FJ (es.getD i .J)else bif(bif decide (aW (es.getD i .J)<=pT es i)then true else decide (aW (es.getD i .J)>=nx))then 19 else bif(!eG (fA (es.getD i .J))||(!eG (iW (es.getD i .J))||(decide (hK (es.getD i .J)<0)||decide (hK (es.getD i .J)>1000000))))then 3 else bif !jV (eP (es.getD i .J)) (bL (es.getD i .J))then 5 else 0
def tO(nx:Int)(es:List AV)(i:Nat):Bool:=qH nx es i !=0
def mc(e:AV):Bool:=((ee (kT e).length&&(small (eP e).length&&((eP e).all eh&&ee (fp e).length)))&&(small (ix e).length&&((ix e).all okF&&decide ((iV e).length<=141000000000000))))&&small (bL e).length
def Zv:List AV->List (Option Row)->a6 cy
 |[.ptr 0 0,.ptr 1 0,.int .i64 ls,.ab (.agg [.int .i64,.str,.slice (.agg [.str,.int .i64]),.str,.slice (.agg [.str,.str]),.slice (.int .u8),.int .i64,.int .i64,.int .i64,.slice (.agg [.str,.int .i64,.int .i64,.bool])]) es,.int .i64 n,.int .i64 i],[some (.box false [.ab Km Kn,.int .i64 nx]),some (.box false [.int .i64 0,.int .i64 0])]=>
  .bt (bl n i es.length&&(es.all mc&&ls==pT es i.toNat)) (h8 (tO nx es) es.length (λq=>.leaf (.ret,[.ptr 0 0,.ptr 1 0,.int .i64 (pT es q),.ab db es,.int .i64 es.length,.int .i64 (q:Nat)],[some (.box false [.ab Km Kn,.int .i64 nx]),some (.box false [.int .i64 (qH nx es q),.int .i64 (q:Nat)])]))
   (.leaf (.exit 0,[.ptr 0 0,.ptr 1 0,.int .i64 (pT es es.length),.ab db es,.int .i64 es.length,.int .i64 es.length],[some (.box false [.ab Km Kn,.int .i64 nx]),some (.box false [.int .i64 0,.int .i64 0])])) i.toNat)
 |_,_=>.no
def Ko:Ev.Loop:=⟨{len:=86,dr:=[1,2,3,22,23,24],rows:=[0,1]},dP Zv⟩
def ans(vs:List AV)(_:List (Option Row)):Nat:=match vs with
 |[_,_,_,_,.int _ n,.int _ i]=>(n-i).toNat
 |_=>0
def ant:dj Tryz.prog Zs [(7,Ko)] Zu Ko:=by
 refine ed Zt.dX rfl (ch.nil aG) ans (λaj vs rs k r h=>?_);unfold Zv at h;split at h
 .rename_i ls es n i Km Kn nx;obtain⟨aa,ai⟩:=bz h;simp only[ba]at aa;obtain⟨aa,cn,kO⟩:=aa;obtain⟨rfl,an,j,rfl,aP⟩:=eA aa;rw[bK]at ai kO;obtain rfl:=ic kO;refine bn (b:=have az:=(Row.box false [.ab Km Kn,.I nx]);have aF:=(Sh.agg [Sh.int i64,Sh.str,(Sh.agg [Sh.str,Sh.int i64]).slice,Sh.str,(Sh.agg [Sh.str,Sh.str]).slice,(Sh.int u8).slice,Sh.int i64,Sh.int i64,Sh.int i64,(Sh.agg [Sh.str,Sh.int i64,Sh.int i64,Sh.bool]).slice]);have aI:=(es.getD j .J);have bd:=(es.length:Int);have bF:=[some az,some (.box false [.I 0,.I 0])];have b3:=(iU (kT aI) (eP aI) (fp aI) (ix aI) (iV aI));have cJ:=(j:Int);have av:=[AV.ptr 0 0,.ptr 1 0,.I (pT es j),.ab aF es,.I bd,.I cJ];have aZ:=[some az,some (.box false [.I 3,.I cJ])];have bk:=[some az,some (.box false [.I 19,.I cJ])];have bI:=(i64.wrap (cJ+(1:Int)));have aO:=(bx (tO nx es) es.length bI.toNat);have cd:=(aO.getD 0);bif decide (cJ<bd)then bif inb cJ es.length then bif ee (kT aI).length&&(small (eP aI).length&&((eP aI).all eh&&ee (fp aI).length))&&(small (ix aI).length&&((ix aI).all okF&&decide ((iV aI).length<=141000000000000)))then bif b3.fst !=0 then k .ret av [some az,some (.box false [.I b3.fst,.I cJ])]else bif decide ((aW aI)<=pT es j)then k .ret av bk else bif decide ((aW aI)>=nx)then k .ret av bk else bif !eG (fA aI)then k .ret av aZ else bif !eG (iW aI)then k .ret av aZ else bif decide ((hK aI)<(0:Int))then k .ret av aZ else bif decide ((hK aI)>(1000000:Int))then k .ret av aZ else bif small (bL aI).length then bif !jV (eP aI) (bL aI)then k .ret av [some az,some (.box false [.I 5,.I cJ])]else bif decide ((bd-i64.wrap (cJ+(1:Int))).toNat<(bd-cJ).toNat)then bif bl bd bI es.length&&(es.all mc&&(aW aI)==pT es bI.toNat)then bif aO.isSome then k .ret [.ptr 0 0,.ptr 1 0,.I (pT es cd),.ab aF es,.I bd,.I (cd:Int)] [some az,some (.box false [.I (qH nx es cd),.I (cd:Int)])]else k (.exit 0) [.ptr 0 0,.ptr 1 0,.I (pT es es.length),.ab aF es,.I bd,.I bd] bF else none else none else none else none else none else k (.exit 0) av bF) ?_;conv=>zeta
  rw[<-ai];by_cases aL:j<es.length
  .obtain⟨aU,bc,bw,bQ,bN⟩:=ew aL an;rw[j2 _ _ _ _ _ aL];have hT:=jg cn aL;unfold mc at hT;rw[ba]at hT;obtain⟨fY,kD⟩:=hT;have CO:tO nx es j=(qH nx es j !=0):=rfl;have x6:qH nx es j=bif(iU (kT (es.getD j .J)) (eP (es.getD j .J)) (fp (es.getD j .J)) (ix (es.getD j .J)) (iV (es.getD j .J))).1 !=0 then(iU (kT (es.getD j .J)) (eP (es.getD j .J)) (fp (es.getD j .J)) (ix (es.getD j .J)) (iV (es.getD j .J))).1 else bif(bif decide (aW (es.getD j .J)<=pT es j)then true else decide (aW (es.getD j .J)>=nx))then 19 else bif(!eG (fA (es.getD j .J))||(!eG (iW (es.getD j .J))||(decide (hK (es.getD j .J)<0)||decide (hK (es.getD j .J)>1000000))))then 3 else bif !jV (eP (es.getD j .J)) (bL (es.getD j .J))then 5 else 0:=rfl;have anu:pT es (j+1)=aW (es.getD j .J):=rfl;simp only[aU,bc,bw,bQ,bN,fY,kD,cn,CO,x6,anu,ha,b4,bK,jz];generalize decide (aW (es.getD j .J)<=pT es j)=a2;generalize decide (aW (es.getD j .J)>=nx)=a3;generalize eG (fA (es.getD j .J))=a4;generalize eG (iW (es.getD j .J))=a5;generalize decide (hK (es.getD j .J)<0)=CM;generalize decide (hK (es.getD j .J)>1000000)=Kl;generalize jV (eP (es.getD j .J)) (bL (es.getD j .J))=Zw;cases bJ:(iU (kT (es.getD j .J)) (eP (es.getD j .J)) (fp (es.getD j .J)) (ix (es.getD j .J)) (iV (es.getD j .J))).1 !=0 with
   |true=>first|(simp only[b4,bJ];rfl)|skip
   |false=>first|(cases a2<;>cases a3<;>cases a4<;>cases a5<;>cases CM<;>cases Kl<;>cases Zw<;>rfl)|skip
  .obtain rfl:j=es.length:=al;exact jo
 .cases h
def CP(nx:Int)(es:List AV):Option Nat:=bx (tO nx es) es.length 0
def iX(es:List AV)(nx:Int):Int×Int:=bif decide ((es.length:Int)>20)then(2,-1)else bif(bif decide (nx<0)then true else decide (nx>1000000))then(3,-2)else match CP nx es with
 |some q=>(qH nx es q,(q:Nat))
 |none=>(0,0)
def Am:List AV->a6 AV
 |[.agg [.ab (.agg [.int .i64,.str,.slice (.agg [.str,.int .i64]),.str,.slice (.agg [.str,.str]),.slice (.int .u8),.int .i64,.int .i64,.int .i64,.slice (.agg [.str,.int .i64,.int .i64,.bool])]) es,.int .i64 nx]]=>.bt (small es.length&&es.all mc) (.leaf (.agg [.int .i64 (iX es nx).1,.int .i64 (iX es nx).2]))
 |_=>.no
def QD:SumOK Tryz.prog 26 (aK Am)/\b5 (aK Am):=by
 refine iH (K:=[(7,Ko)]) (b:=Zu) (l:=Ko) Zt Tryz.func26 aG aG ant λaj aA k r h=>?_;unfold Am at h;split at h
 .rename_i es nx;obtain⟨aa,ai⟩:=bz h;simp only[ba]at aa;refine bn (b:=have av:=(bx (tO nx es) es.length 0);have az:=(AV.agg [.I 3,.I (-2:Int)]);bif decide ((es.length:Int)>(20:Int))then k (.agg [.I 2,.I (-1:Int)])else bif decide (nx<(0:Int))then k az else bif decide (nx>(1000000:Int))then k az else bif bl (es.length:Int) (0:Int) es.length&&(es.all mc&&(-1:Int)==pT es 0)then bif av.isSome then k (.agg [.I (qH nx es (av.getD 0)),.I ((av.getD 0):Int)])else k (.agg [.I 0,.I 0])else none) ?_;conv=>zeta
  rw[<-ai,e1 aa.1,aa.2];have aU:iX es nx=bif decide ((es.length:Int)>20)then(2,-1)else bif(bif decide (nx<0)then true else decide (nx>1000000))then(3,-2)else match CP nx es with
   |some q=>(qH nx es q,((q:Nat):Int))
   |none=>(0,0):=rfl
  rw[aU];have bc:bx (tO nx es) es.length 0=CP nx es:=rfl;cases decide ((es.length:Int)>20)
  .cases decide (nx<0)
   .cases decide (nx>1000000)
    .show(bif true then bif(bx (tO nx es) es.length 0).isSome then k (.agg [.int .i64 (qH nx es ((bx (tO nx es) es.length 0).getD 0)),.int .i64 (((bx (tO nx es) es.length 0).getD 0:Nat):Int)])else k (.agg [.int .i64 0,.int .i64 0])else none)=_;rw[bc];cases CP nx es<;>rfl
    .rfl
   .rfl
  .rfl
 .cases h
def anv(d:List UInt8)(e:AV):(d==bm e)=kx d e:=by unfold kx;rw[Bool.beq_comm]
noncomputable def Zx:Code:=((Tryz.f86.body.map c7).getD []).headD .skip
def Zy:List AV->List (Option Row)->a6 cy
 |[.ab .str es,.str d,.int .i64 z,.int .i64 n,.int .i64 i],[]=>
  .bt (bl n i es.length) (h8 (λi=>kx d (es.getD i .J)) es.length (λq=>.leaf (.ret,[.ab .str es,.str d,.int .i64 (q:Nat),.int .i64 es.length,.int .i64 (q:Nat)],[]))
   (.leaf (.exit 0,[.ab .str es,.str d,.int .i64 z,.int .i64 es.length,.int .i64 es.length],[])) i.toNat)
 |_,_=>.no
def Kp:Ev.Loop:=⟨{len:=19,dr:=[0,1,4,7,8]},dP Zy⟩
def anw:dj Tryz.prog mC [(2,Kp)] Zx Kp:=by
 refine ed bV.dX rfl (ch.nil aG) CG (λaj vs rs k r h=>?_);unfold Zy at h;split at h
 .rename_i es d z n i;obtain⟨aa,ai⟩:=bz h;obtain⟨rfl,an,j,rfl,aP⟩:=eA aa;rw[bK]at ai;refine bn (b:=have av:=(es.length:Int);have aF:=(j:Int);have az:=(IntKind.i64.wrap (aF+(1:Int)));bif decide (aF<av)then bif inb aF es.length then bif d==(bm (es.getD j .J))then k .ret [.ab .str es,.str d,.I aF,.I av,.I aF] []else bif decide ((av-IntKind.i64.wrap (aF+(1:Int))).toNat<(av-aF).toNat)then bif bl av az es.length then bif(bx (λi=>kx d (es.getD i .J)) es.length az.toNat).isSome then k .ret [.ab .str es,.str d,.I (((bx (λi=>kx d (es.getD i .J)) es.length az.toNat).getD 0):Int),.I av,.I (((bx (λi=>kx d (es.getD i .J)) es.length az.toNat).getD 0):Int)] []else k (.exit 0) [.ab .str es,.str d,.I z,.I av,.I av] []else none else none else none else k (.exit 0) [.ab .str es,.str d,.I z,.I av,.I aF] []) ?_;conv=>zeta
  rw[<-ai];by_cases aL:j<es.length
  .obtain⟨aU,bc,bw,bQ,bN⟩:=ew aL an;rw[j2 _ _ _ _ _ aL];simp only[aU,bc,bw,bQ,bN,anv,b4,bK];cases kx d (es.getD j .J)<;>rfl
  .obtain rfl:j=es.length:=al;exact jo
 .cases h
def QE:List AV->a6 AV
 |[.ab .str es,.str d]=>.bt (small es.length) (.leaf (.int .i64 (kv (iT d es 0))))
 |_=>.no
def anx:SumOK Tryz.prog 86 (aK QE)/\b5 (aK QE):=by
 refine iH (K:=[(2,Kp)]) (b:=Zx) (l:=Kp) bV Tryz.func86 aG aG anw λaj aA k r h=>?_;unfold QE at h;split at h
 .rename_i es d;obtain⟨aa,ai⟩:=bz h;refine bn (b:=bif bl (es.length:Int) (0:Int) es.length then bif(bx (λi=>kx d (es.getD i .J)) es.length 0).isSome then k (.I (((bx (λi=>kx d (es.getD i .J)) es.length 0).getD 0):Int))else k (.I (-1:Int))else none) ?_;rw[<-ai,e1 aa];show(bif true then bif(iT d es 0).isSome then k (.int .i64 (((iT d es 0).getD 0:Nat):Int))else k (.int .i64 (-1))else none)=_;cases iT d es 0<;>rfl
 .cases h
def Kq:List AV->a6 AV
 |[.ab .str es,.str d]=>.bt (small es.length) (.leaf (.bool (decide (kv (iT d es 0)>=0))))
 |_=>.no
def anz:SumOK Tryz.prog 50 (aK Kq)/\b5 (aK Kq):=by
 refine eJ (aM.br bV anx) Tryz.func50 aG λaj aA k r h=>?_;unfold Kq at h;split at h
 .rename_i es d;obtain⟨aa,ai⟩:=bz h;refine bn (b:=bif small es.length then k (.bool (decide (kv (iT d es 0)>=(0:Int))))else none) ?_;rw[<-ai,aa];rfl
 .cases h
noncomputable def Zz:Env:={pure:=[(27,aK rv),(39,aK o9),(48,aK Kj),(49,aK JG),(50,aK Kq)]}
def g12:aM prog Zz:=aM.br (aM.br (aM.br (aM.br (aM.br bV anz) PZ) Zo) rz) uU
noncomputable def ZA:Code:=((Tryz.f12.body.map c7).getD []).headD .skip
def sI(out:List AV)(e:AV):List AV:=bif !decide (kv (iT (cC (bm e)) out 0)>=0)then out++[.str (cC (bm e))]else out
def anA(out:List AV)(e:AV):(sI out e).length<=out.length+1:=by
 unfold sI;cases !decide (kv (iT (cC (bm e)) out 0)>=0)
 .exact Nat.le_succ _
 .rw[b4,fu];exact dc _
def ZB:List AV->List (Option Row)->a6 cy
 |[.ptr 2 0,.own 9999,.ab (.agg [.str,.int .i64]) es,.int .i64 n,.int .i64 i],[some (.box false [.int .i64 0,.int .i64 0]),some (.arr false .str FK out none)]=>.bt (bl n i es.length&&(es.all eh&&decide (FK=9/\out.length<=i.toNat/\es.length<=60))) (.leaf (.exit 0,[.ptr 2 0,.own 9999,.ab eR es,.int .i64 n,.int .i64 es.length],[some (.box false [.int .i64 0,.int .i64 0]),some (.arr false .str FK ((es.drop i.toNat).foldl sI out) none)]))
 |_,_=>.no
def Kr:Ev.Loop:=⟨{len:=41,dr:=[3,5,17,18,19],rows:=[2,9999],homes:=[(5,9999,9)]},dP ZB⟩
def anB(vs:List AV)(_:List (Option Row)):Nat:=match vs with
 |[_,_,_,.int _ n,.int _ i]=>(n-i).toNat
 |_=>0
def anC:dj prog Zz [(6,Kr)] ZA Kr:=by
 refine ed g12.dX rfl (ch.nil aG) anB (λaj vs rs k r h=>?_);unfold ZB at h;split at h
 .rename_i es n i FK out;obtain⟨aa,ai⟩:=bz h;simp only[ba]at aa;obtain⟨aa,cn,ag⟩:=aa;obtain⟨rfl,aw,ay⟩:=bH ag;obtain⟨rfl,an,j,rfl,aP⟩:=eA aa;rw[bK]at ai aw;refine bn (b:=have av:=(es.length:Int);have az:=(IntKind.i64.wrap ((j:Int)+(1:Int)));have aF:=[AV.ptr 2 0,.own 9999,.ab (.agg [.str,.int .i64]) es,.I av,.I av];have aI:=(Row.box false [.I 0,.I 0]);have aO:=(cC (bm (es.getD j .J)));have aZ:=decide ((av-IntKind.i64.wrap ((j:Int)+(1:Int))).toNat<(av-(j:Int)).toNat);have bd:=(Ex.exit 0);bif decide ((j:Int)<av)then bif inb (j:Int) es.length then bif ee (bm (es.getD j .J)).length then bif small out.length then bif !decide (kv (iT aO out 0)>=(0:Int))then bif roomB (out.length+[AV.str aO].length) (prog.bytesOf 9)then bif aZ then bif bl av az es.length&&(es.all eh&&decide (9=(9:TypeId)/\(out++[AV.str aO]).length<=az.toNat/\es.length<=60))then k bd aF [some aI,some (.arr false .str 9 (List.foldl sI (out++[AV.str aO]) (List.drop az.toNat es)) none)]else none else none else none else bif aZ then bif bl av az es.length&&(es.all eh&&decide ((9:TypeId)=(9:TypeId)/\out.length<=az.toNat/\es.length<=60))then k bd aF [some aI,some (.arr false .str 9 (List.foldl sI out (List.drop az.toNat es)) none)]else none else none else none else none else none else k bd [.ptr 2 0,.own 9999,.ab (.agg [.str,.int .i64]) es,.I av,.I (j:Int)] [some aI,some (.arr false .str 9 out none)]) ?_;conv=>zeta
  rw[<-ai];by_cases aL:j<es.length
  .obtain⟨aU,bc,bw,bQ,bN⟩:=ew aL an;rw[amH _ _ _ _ aL];have fY:ee (bm (es.getD j .J)).length=true:=jg cn aL;have kD:small out.length=true:=aS al;have uq:∀x:AV,roomB (out.length+([x]:List AV).length) (prog.bytesOf 9)=true:=λx=>amI ps;have pR:∀x:AV,decide (True/\(out++[x]).length<=j+1/\es.length<=60)=true:=λx=>aS ⟨trivial,s3,ay⟩;have pS:decide (True/\out.length<=j+1/\es.length<=60)=true:=aS ⟨trivial,al,ay⟩;have x5:sI out (es.getD j .J)=bif !decide (kv (iT (cC (bm (es.getD j .J))) out 0)>=0)then out++[.str (cC (bm (es.getD j .J)))]else out:=rfl;rw[x5];simp only[aU,bc,bw,bQ,bN,fY,kD,cn,b4,bK];cases decide (kv (iT (cC (bm (es.getD j .J))) out 0)>=0)
   .simp only[uq,pR,pq,b4,jz];rfl
   .simp only[pS,lY,cU,b4,jz];rfl
  .obtain rfl:j=es.length:=al;exact oQ
 .cases h
def anD{f:List UInt8}{es:List AV}{d:List UInt8}(h:(ky f es d).1=0):es.length<=60:=by
 unfold ky at h;by_cases ao:(es.length:Int)>60
 .rw[aS ao]at h;cases ak: !(f==[])&& !sD f with
  |true=>rw[ak]at h;exact absurd (show(10:Int)=0 from h) gn
  |false=>rw[ak]at h;cases af:decide ((es.length:Int)<1)<;>rw[af]at h<;>exact absurd (show(2:Int)=0 from h) gn
 .omega
def FL:List AV->a6 AV
 |[.agg [.str f,.ab (.agg [.str,.int .i64]) es,.str d]]=>.bt (ee f.length&&(small es.length&&(es.all eh&&ee d.length))) (.cY ((ky f es d).1 !=0) (.leaf (.tup [.ab .str [],.agg [.int .i64 (ky f es d).1,.int .i64 (ky f es d).2]])) (.leaf (.tup [.ab .str (es.foldl sI []),.agg [.int .i64 0,.int .i64 0]])))
 |_=>.no
def anE:SumOK prog 12 (aK FL)/\b5 (aK FL):=by
 refine iH (K:=[(6,Kr)]) (b:=ZA) (l:=Kr) g12 Tryz.func12 aG aG anC λaj aA k r h=>?_;unfold FL at h;split at h
 .rename_i f es d;obtain⟨aa,ai⟩:=bz h;have iD:=aa;simp only[ba]at iD;obtain⟨af,ao,a1,ca⟩:=iD;refine bn (b:=bif ee f.length&&(small es.length&&(es.all eh&&ee d.length))then bif(ky f es d).fst !=0 then k (.tup [.ab .str [],.agg [.I (ky f es d).fst,.I (ky f es d).snd]])else bif bl (es.length:Int) (0:Int) es.length&&(es.all eh&&decide ((5,9999,(9:TypeId)).snd.snd=(9:TypeId)/\([]:List AV).length<=Int.toNat (0:Int)/\es.length<=60))then k (.tup [.ab .str (List.foldl sI [] (List.drop 0 es)),.agg [.I 0,.I 0]])else none else none) ?_;rw[<-ai,aa];by_cases ak:(ky f es d).1=0
  .have g1:((ky f es d).1 !=0)=false:=by rw[ak];rfl
   have ay:=anD ak;have g2:decide (((5,9999,9):Nat×Nat×TypeId).2.2=9/\([]:List AV).length<=Int.toNat 0/\es.length<=60)=true:=aS ⟨rfl,iM _,ay⟩;rw[g1,e1 ao,a1,g2];rfl
  .have g1:((ky f es d).1 !=0)=true:=yI.2 ak;rw[g1];rfl
 .cases h
noncomputable def ZC:Code:=((Tryz.f139.body.map c7).getD []).headD .skip
def nR(s:List UInt8)(i:Nat):Bool:=b8 s i==64
def ZD:List AV->List (Option Row)->a6 cy
 |[.str s,.int .i64 z,.int .i64 i],[]=>
  .bt (bl s.length i s.length) (h8 (nR s) s.length (λq=>.leaf (.ret,[.str s,.int .i64 (q:Nat),.int .i64 (q:Nat)],[]))
   (.leaf (.exit 0,[.str s,.int .i64 z,.int .i64 s.length],[])) i.toNat)
 |_,_=>.no
def Ks:Ev.Loop:=⟨{len:=17,dr:=[0,2,3]},dP ZD⟩
def QF(vs:List AV)(_:List (Option Row)):Nat:=match vs with
 |[.str s,_,.int _ i]=>((s.length:Int)-i).toNat
 |_=>0
def anF:dj Tryz.prog mC [(2,Ks)] ZC Ks:=by
 refine ed bV.dX rfl (ch.nil aG) QF (λaj vs rs k r h=>?_);unfold ZD at h;split at h
 .rename_i s z i;obtain⟨aa,ai⟩:=bz h;obtain⟨_,an,j,rfl,aP⟩:=eA aa;rw[bK]at ai;refine bn (b:=have az:=(s.length:Int);have aF:=(j:Int);have aI:=(IntKind.i64.wrap (aF+(1:Int)));have av:=(bx (nR s) s.length aI.toNat);bif decide (aF<az)then bif inb aF s.length then bif((s.getD j (0:UInt8)).toNat:Int)==64 then k .ret [.str s,.I aF,.I aF] []else bif decide ((az-IntKind.i64.wrap (aF+(1:Int))).toNat<(az-aF).toNat)then bif bl az aI s.length then bif av.isSome then k .ret [.str s,.I ((av.getD 0):Int),.I ((av.getD 0):Int)] []else k (.exit 0) [.str s,.I z,.I az] []else none else none else none else k (.exit 0) [.str s,.I z,.I aF] []) ?_;conv=>zeta
  rw[<-ai];by_cases aL:j<s.length
  .obtain⟨aU,bc,bw,bQ,bN⟩:=ew aL an;rw[j2 _ _ _ _ _ aL];have mD:(((s.getD j 0).toNat:Int)==64)=nR s j:=rfl;simp only[aU,bc,bw,bQ,bN,mD,b4,bK];cases nR s j<;>rfl
  .obtain rfl:j=s.length:=al;exact jo
 .cases h
def hL(s:List UInt8):Nat:=(bx (nR s) s.length 0).getD s.length
def Kt:List AV->a6 AV
 |[.str s]=>.bt (small s.length) (.leaf (.int .i64 (hL s:Nat)))
 |_=>.no
def ZE:SumOK Tryz.prog 139 (aK Kt)/\b5 (aK Kt):=by
 refine iH (K:=[(2,Ks)]) (b:=ZC) (l:=Ks) bV Tryz.func139 aG aG anF λaj aA k r h=>?_;unfold Kt at h;split at h
 .rename_i s;obtain⟨aa,ai⟩:=bz h;refine bn (b:=have av:=(bx (nR s) s.length 0);bif bl (s.length:Int) (0:Int) s.length then bif av.isSome then k (.I ((av.getD 0):Int))else k (.I (s.length:Int))else none) ?_;conv=>zeta
  rw[<-ai,e1 aa];show(bif true then bif(bx (nR s) s.length 0).isSome then k (.int .i64 (((bx (nR s) s.length 0).getD 0:Nat):Int))else k (.int .i64 s.length)else none)=k (.int .i64 (((bx (nR s) s.length 0).getD s.length:Nat):Int));cases bx (nR s) s.length 0<;>rfl
 .cases h
def ZF(s:List UInt8):hL s<=s.length:=by
 unfold hL;cases h:bx (nR s) s.length 0 with
 |none=>exact dc _
 |some q=>exact Nat.le_of_lt (sA h).2.1
def rB(s:List UInt8):List UInt8:=bif hL s==s.length then[]else s.drop (hL s+1)
def QG:List AV->a6 AV
 |[.str s]=>.bt (ee s.length) (.leaf (.str (rB s)))
 |_=>.no
def anG:SumOK Tryz.prog 130 (aK QG)/\b5 (aK QG):=by
 refine eJ (aM.br bV ZE) Tryz.func130 aG λaj aA k r h=>?_;unfold QG at h;split at h
 .rename_i s;obtain⟨aa,ai⟩:=bz h;have ay:=bH aa;have aU:small s.length=true:=aS al;refine bn (b:=have av:=(IntKind.i64.wrap (((hL s):Int)+(1:Int)));have az:=(s.length:Int);bif small s.length then bif((hL s):Int)==az then k (.str [])else bif slb av az s.length then k (.str (List.take (az.toNat-av.toNat) (List.drop av.toNat s)))else none else none) ?_;conv=>zeta
  rw[<-ai,aU];have hle:=ZF s;by_cases he:hL s=s.length
  .have bc:rB s=[]:=by unfold rB;rw[he,ha];rfl
   have bw:((hL s:Int)==(s.length:Int))=true:=by rw[he];exact ha _
   rw[bc,bw];rfl
  .have bc:rB s=s.drop (hL s+1):=by unfold rB;rw[sZ he];rfl
   have bw:((hL s:Int)==(s.length:Int))=false:=sZ al;have bQ:IntKind.i64.wrap ((hL s:Int)+1)=((hL s+1:Nat):Int):=by rw[mL _ al al];omega
   have bN:slb ((hL s+1:Nat):Int) (s.length:Int) s.length=true:=mB al al al;have j9:List.take (s.length-(hL s+1)) (s.drop (hL s+1))=s.drop (hL s+1):=nn Bl;rw[bc,bw];simp only[bQ,bN,j9,b4,cU,bK];rfl
 .cases h
end Go.Proofs.YtijdnecnjenleaaGreatDoor
