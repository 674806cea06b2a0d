/-
  queue.Ready: the attempts of the entries that are due.
-/
import Derived.Test.YtijdnecnjenleaaGreatDoorKrJ
set_option linter.all false
namespace Go.Proofs.YtijdnecnjenleaaGreatDoor
open IntKind
open Go.Ev
open Tryz
variable{bs:List AV}
noncomputable def KK:Env:={pure:=[(8,aK tQ),(64,aK FR),(102,aK FT)]}
def KL:aM prog KK:=aM.br (aM.br (aM.br bV aaz) aaA) At
noncomputable def aaB:Code:=((Tryz.f101.body.map c7).getD []).headD .skip
noncomputable def aaC:Code:=((Tryz.f101.body.map c7).getD []).tail.headD .skip
noncomputable def aaD:Code:=((Tryz.f101.body.map c7).getD []).tail.tail.headD .skip
def Au(a:List UInt8)(i:Nat):Bool:= !ef (i64.wrap (b8 a i)) 33 126||b8 a i==58
def C1(b:List UInt8)(i:Nat):Bool:=b8 b i==0||(b8 b i==10||b8 b i==13)
def yb(ls:List AV)(i:Nat):Bool:=decide (((bm (ls.getD i .J)).length:Int)>998)
def aaE:List AV->List (Option Row)->a6 cy
 |[.ptr 0 0,.int .i64 z,.int .i64 i],[some (.box false [.str a,.str b])]=>
  .bt (bl a.length i a.length) (h8 (Au a) a.length (λq=>.leaf (.ret,[.ptr 0 0,.int .i64 10,.int .i64 (q:Nat)],[some (.box false [.str a,.str b])]))
   (.leaf (.exit 0,[.ptr 0 0,.int .i64 z,.int .i64 a.length],[some (.box false [.str a,.str b])])) i.toNat)
 |_,_=>.no
def QW:Ev.Loop:=⟨{len:=98,dr:=[1,2,3],rows:=[0]},dP aaE⟩
def apM(vs:List AV)(rs:List (Option Row)):Nat:=match vs,rs with
 |[_,_,.int _ i],[some (.box _ [.str a,_])]=>((a.length:Int)-i).toNat
 |_,_=>0
def apN(K:List (Nat×Ev.Loop)):dj prog KK K aaB QW:=by
 refine ed KL.dX rfl (ch.nil aG) apM (λaj vs rs k r h=>?_);unfold aaE at h;split at h
 .rename_i z i s b;obtain⟨aa,ai⟩:=bz h;obtain⟨_,an,j,rfl,aP⟩:=eA aa;rw[bK]at ai;refine bn (b:=have av:=[some (Row.box false [.str s,.str b])];have aI:=(s.length:Int);have aO:=(j:Int);have aF:=[AV.ptr 0 0,.I 10,.I aO];have aZ:=((s.getD j (0:UInt8)).toNat:Int);have bd:=(i64.wrap (aO+(1:Int)));have az:=(bx (Au s) s.length bd.toNat);bif decide (aO<aI)then bif inb aO s.length then bif !ef (i64.wrap aZ) (33:Int) (126:Int)then k .ret aF av else bif inb aO s.length then bif aZ==58 then k .ret aF av else bif decide ((aI-i64.wrap (aO+(1:Int))).toNat<(aI-aO).toNat)then bif bl aI bd s.length then bif az.isSome then k .ret [.ptr 0 0,.I 10,.I ((az.getD 0):Int)] av else k (.exit 0) [.ptr 0 0,.I z,.I aI] av else none else none else none else none else k (.exit 0) [.ptr 0 0,.I z,.I aO] av) ?_;conv=>zeta
  rw[<-ai];by_cases aL:j<s.length
  .obtain⟨aU,bc,bw,bQ,bN⟩:=ew aL an;have a0:(((s.getD j 0).toNat:Nat):Int)=b8 s j:=rfl;have lV:Au s j=(!ef (i64.wrap (b8 s j)) 33 126||b8 s j==58):=rfl;rw[j2 _ _ _ _ _ aL,lV];simp only[aU,bc,bw,bQ,bN,a0,b4,bK];cases ef (i64.wrap (b8 s j)) 33 126<;>cases b8 s j==58<;>rfl
  .obtain rfl:j=s.length:=al;exact jo
 .cases h
def aaF:List AV->List (Option Row)->a6 cy
 |[.ptr 0 0,.int .i64 z,.int .i64 n,.int .i64 i],[some (.box false [.str a,.str b])]=>
  .bt (bl n i b.length) (h8 (C1 b) b.length (λq=>.leaf (.ret,[.ptr 0 0,.int .i64 11,.int .i64 n,.int .i64 (q:Nat)],[some (.box false [.str a,.str b])]))
   (.leaf (.exit 2,[.ptr 0 0,.int .i64 z,.int .i64 n,.int .i64 b.length],[some (.box false [.str a,.str b])])) i.toNat)
 |_,_=>.no
def QX:Ev.Loop:=⟨{len:=98,dr:=[1,2,4,5],rows:=[0]},dP aaF⟩
def apO(vs:List AV)(_:List (Option Row)):Nat:=match vs with
 |[_,_,.int _ n,.int _ i]=>(n-i).toNat
 |_=>0
def apP(K:List (Nat×Ev.Loop)):dj prog KK K aaC QX:=by
 refine ed KL.dX rfl (ch.nil aG) apO (λaj vs rs k r h=>?_);unfold aaF at h;split at h
 .rename_i z n i a s;obtain⟨aa,ai⟩:=bz h;obtain⟨rfl,an,j,rfl,aP⟩:=eA aa;rw[bK]at ai;refine bn (b:=have az:=[some (Row.box false [.str a,.str s])];have aF:=(s.length:Int);have aI:=((s.getD j (0:UInt8)).toNat:Int);have aZ:=(j:Int);have av:=[AV.ptr 0 0,.I 11,.I aF,.I aZ];have bd:=inb aZ s.length;have bk:=(i64.wrap (aZ+(1:Int)));have aO:=(bx (C1 s) s.length bk.toNat);bif decide (aZ<aF)then bif bd then bif aI==0 then k .ret av az else bif bd then bif aI==10 then k .ret av az else bif bd then bif aI==13 then k .ret av az else bif decide ((aF-i64.wrap (aZ+(1:Int))).toNat<(aF-aZ).toNat)then bif bl aF bk s.length then bif aO.isSome then k .ret [.ptr 0 0,.I 11,.I aF,.I ((aO.getD 0):Int)] az else k (.exit 2) [.ptr 0 0,.I z,.I aF,.I aF] az else none else none else none else none else none else k (.exit 2) [.ptr 0 0,.I z,.I aF,.I aZ] az) ?_;conv=>zeta
  rw[<-ai];by_cases aL:j<s.length
  .obtain⟨aU,bc,bw,bQ,bN⟩:=ew aL an;have a0:(((s.getD j 0).toNat:Nat):Int)=b8 s j:=rfl;have lV:C1 s j=(b8 s j==0||(b8 s j==10||b8 s j==13)):=rfl;rw[j2 _ _ _ _ _ aL,lV];simp only[aU,bc,bw,bQ,bN,a0,b4,bK];cases b8 s j==0<;>cases b8 s j==10<;>cases b8 s j==13<;>rfl
  .obtain rfl:j=s.length:=al;exact jo
 .cases h
def aaG:List AV->List (Option Row)->a6 cy
 |[.int .i64 z,.ab .str ls,.int .i64 i],[]=>
  .bt (bl ls.length i ls.length) (h8 (yb ls) ls.length (λq=>.leaf (.ret,[.int .i64 1,.ab .str ls,.int .i64 (q:Nat)],[]))
   (.leaf (.exit 4,[.int .i64 z,.ab .str ls,.int .i64 ls.length],[])) i.toNat)
 |_,_=>.no
def QY:Ev.Loop:=⟨{len:=98,dr:=[2,6,7]},dP aaG⟩
def apQ(vs:List AV)(_:List (Option Row)):Nat:=match vs with
 |[_,.ab _ ls,.int _ i]=>((ls.length:Int)-i).toNat
 |_=>0
def apR(K:List (Nat×Ev.Loop)):dj prog KK K aaD QY:=by
 refine ed KL.dX rfl (ch.nil aG) apQ (λaj vs rs k r h=>?_);unfold aaG at h;split at h
 .rename_i z s i;obtain⟨aa,ai⟩:=bz h;obtain⟨_,an,j,rfl,aP⟩:=eA aa;rw[bK]at ai;refine bn (b:=have az:=(s.length:Int);have aF:=(j:Int);have aI:=(i64.wrap (aF+(1:Int)));have av:=(bx (yb s) s.length aI.toNat);bif decide (aF<az)then bif inb aF s.length then bif decide (((bm (s.getD j .J)).length:Int)>(998:Int))then k .ret [.I 1,.ab .str s,.I aF] []else bif decide ((az-i64.wrap (aF+(1:Int))).toNat<(az-aF).toNat)then bif bl az aI s.length then bif av.isSome then k .ret [.I 1,.ab .str s,.I ((av.getD 0):Int)] []else k (.exit 4) [.I z,.ab .str s,.I az] []else none else none else none else k (.exit 4) [.I z,.ab .str s,.I aF] []) ?_;conv=>zeta
  rw[<-ai];by_cases aL:j<s.length
  .obtain⟨aU,bc,bw,bQ,bN⟩:=ew aL an;have lV:yb s j=decide (((bm (s.getD j .J)).length:Int)>998):=rfl;rw[j2 _ _ _ _ _ aL,lV];simp only[aU,bc,bw,bQ,bN,b4,bK];show(bif decide (((bm (s.getD j .J)).length:Int)>998)then _ else _)=_;cases decide (((bm (s.getD j .J)).length:Int)>998)<;>rfl
  .obtain rfl:j=s.length:=al;exact jo
 .cases h
def aaH(b:List UInt8):Bool:=decide ((b.length:Int)>0)&&(ll (b8 b 0)||ll (b8 b (b.length-1)))
def pb(a b:List UInt8):Int:=bif(bx (Au a) a.length 0).isSome then 10 else bif !ef a.length 1 60 then 10 else bif decide ((b.length:Int)>4000)then 1 else bif(bx (C1 b) b.length 0).isSome then 11 else bif aaH b then 11 else bif(bx (yb (kh a b)) (kh a b).length 0).isSome then 1 else 0
def KM:List AV->a6 AV
 |[.agg [.str a,.str b]]=>.bt (small a.length&&small b.length) (.leaf (.int .i64 (pb a b)))
 |_=>.no
def apS:SumOK prog 101 (aK KM)/\b5 (aK KM):=by
 refine xZ (K:=[(2,QW),(12,QX),(20,QY)]) KL Tryz.func101 (bs:=[aaB,aaC,aaD]) aG (λb ag=>?_) λaj aA k r h=>?_
 .simp only[gv,mh,mi]at ag;rcases ag with rfl|rfl|rfl
  .exact⟨QW,aG,apN _⟩
  .exact⟨QX,aG,apP _⟩
  .exact⟨QY,aG,apR _⟩
 unfold KM at h;split at h
 .rename_i a b;obtain⟨aa,ai⟩:=bz h;rw[ba]at aa;obtain⟨b2,bX⟩:=aa;refine bn (b:=have av:=bif decide (a.length+b.length<=50000)then bif bl ((kh a b).length:Int) (0:Int) (kh a b).length then bif(bx (yb (kh a b)) (kh a b).length 0).isSome then k (.I 1)else k (.I 0)else none else none;have az:=(b.length:Int);have aF:=(AV.I 11);have aI:=(i64.wrap (az-(1:Int)));bif bl (a.length:Int) (0:Int) a.length then bif(bx (Au a) a.length 0).isSome then k (.I 10)else bif !ef (a.length:Int) (1:Int) (60:Int)then k (.I 10)else bif decide (az>(4000:Int))then k (.I 1)else bif bl az (0:Int) b.length then bif(bx (C1 b) b.length 0).isSome then k aF else bif decide (az>(0:Int))then bif inb (0:Int) b.length then bif ll ((b.getD 0 (0:UInt8)).toNat:Int)then k aF else bif inb aI b.length then bif ll ((b.getD aI.toNat (0:UInt8)).toNat:Int)then k aF else av else none else none else av else none else none) ?_;conv=>zeta
  rw[<-ai,e1 b2,e1 bX];unfold pb;cases(bx (Au a) a.length 0).isSome;rotate_left
  .rfl
  cases ah:ef (a.length:Int) 1 60
  .rfl
  have cI:a.length<=60:=SJ;by_cases ag:(b.length:Int)>4000
  .rw[aS ag];rfl
  rw[cZ ag];have ay:=aaI a b;have apT:(bif decide (a.length+b.length<=50000)then bif bl ((kh a b).length:Int) 0 (kh a b).length then bif(bx (yb (kh a b)) (kh a b).length 0).isSome then k (.int .i64 1)else k (.int .i64 0)else none else none)=k (.int .i64 (bif(bx (yb (kh a b)) (kh a b).length 0).isSome then 1 else 0)):=by rw[aS (by omega:a.length+b.length<=50000),e1 (aS al)];cases(bx (yb (kh a b)) (kh a b).length 0).isSome<;>rfl
  rw[apT];cases(bx (C1 b) b.length 0).isSome;rotate_left
  .rfl
  unfold aaH;by_cases a7:(b.length:Int)>0
  .have w1:i64.wrap ((b.length:Int)-1)=((b.length-1:Nat):Int):=by rw[lT _ al al];omega
   have i1:inb (0:Int) b.length=true:=ie al al;have i2:inb ((b.length-1:Nat):Int) b.length=true:=ie al al;have a0:(((b.getD 0 0).toNat:Nat):Int)=b8 b 0:=rfl;have bJ:(((b.getD (b.length-1) 0).toNat:Nat):Int)=b8 b (b.length-1):=rfl;rw[aS a7,w1,i1,i2,bK,a0,bJ];cases ll (b8 b 0)<;>cases ll (b8 b (b.length-1))<;>rfl
  .rw[cZ a7];rfl
 .cases h
def FU:List AV->a6 AV
 |[.int .i64 c,.int .i64 p]=>.leaf (.agg [.int .i64 c,.int .i64 p])
 |_=>.no
def QZ:SumOK prog 63 (aK FU)/\b5 (aK FU):=by
 refine eJ bV Tryz.func63 aG λaj aA k r h=>?_;unfold FU at h;split at h
 .rename_i c p;have ai:=h;refine bn (b:=k (.agg [.I c,.I p])) ?_;exact ai
 .cases h
def apU{a b:List UInt8}(h:pb a b=0):a.length<=60/\b.length<=4000:=by
 unfold pb at h;cases af:(bx (Au a) a.length 0).isSome<;>rw[af]at h;rotate_left
 .simp at h
 cases ah:ef (a.length:Int) 1 60<;>rw[ah]at h
 .simp at h
 have cI:a.length<=60:=SJ;by_cases ag:(b.length:Int)>4000
 .rw[aS ag]at h;simp at h
 .exact⟨cI,al⟩
noncomputable def Q0:Env:={pure:=[(23,aK FV),(63,aK FU),(101,aK KM)]}
def Q1:aM prog Q0:=aM.br (aM.br (aM.br bV apS) QZ) aaJ
noncomputable def aaK:Code:=((Tryz.f62.body.map c7).getD []).headD .skip
noncomputable def aaL:Code:=((Tryz.f62.body.map c7).getD []).tail.headD .skip
def qJ(aC:List AV)(i:Nat):Bool:=pb (eS (aC.getD i .J)) (fa (aC.getD i .J))!=0
def aaM:List AV->List (Option Row)->a6 cy
 |[.ptr 0 0,.ptr 1 0,.int .i64 i],[some (.box false [.ab (.agg [.str,.str]) aC,.ab (.int .u8) bs]),some (.box false [.int .i64 dV,.int .i64 z2])]=>
  .bt (bl aC.length i aC.length&&aC.all okF) (h8 (qJ aC) aC.length (λq=>.leaf (.ret,[.ptr 0 0,.ptr 1 0,.int .i64 (q:Nat)],[some (.box false [.ab fb aC,.ab fv bs]),some (.box false [.int .i64 (pb (eS (aC.getD q .J)) (fa (aC.getD q .J))),.int .i64 (q:Nat)])]))
   (.leaf (.exit 0,[.ptr 0 0,.ptr 1 0,.int .i64 aC.length],[some (.box false [.ab fb aC,.ab fv bs]),some (.box false [.int .i64 dV,.int .i64 z2])])) i.toNat)
 |_,_=>.no
def Q2:Ev.Loop:=⟨{len:=88,dr:=[1,2,3],rows:=[0,1]},dP aaM⟩
def apV(vs:List AV)(rs:List (Option Row)):Nat:=match vs,rs with
 |[_,_,.int _ i],[some (.box _ [.ab _ aC,_]),_]=>((aC.length:Int)-i).toNat
 |_,_=>0
def apW(K:List (Nat×Ev.Loop)):dj prog Q0 K aaK Q2:=by
 refine ed Q1.dX rfl (ch.nil aG) apV (λaj vs rs k r h=>?_);unfold aaM at h;split at h
 .rename_i i aC bs dV z2;obtain⟨aa,ai⟩:=bz h;rw[ba]at aa;obtain⟨aa,cn⟩:=aa;obtain⟨_,an,j,rfl,aP⟩:=eA aa;rw[bK]at ai;refine bn (b:=have az:=(Row.box false [AV.ab (Sh.agg [Sh.str,Sh.str]) aC,AV.ab (Sh.int u8) bs]);have aF:=(aC.getD j .J);have aO:=[some az,some (.box false [.I dV,.I z2])];have aZ:=(aC.length:Int);have bk:=(j:Int);have aI:=[AV.ptr 0 0,.ptr 1 0,.I bk];have bF:=(i64.wrap (bk+(1:Int)));have av:=(bx (qJ aC) aC.length bF.toNat);have bd:=(av.getD 0);bif decide (bk<aZ)then bif inb bk aC.length then bif small (eS aF).length&&small (fa aF).length then bif pb (eS aF) (fa aF)!=0 then k .ret aI [some az,some (.box false [.I (pb (eS aF) (fa aF)),.I bk])]else bif decide ((aZ-i64.wrap (bk+(1:Int))).toNat<(aZ-bk).toNat)then bif bl aZ bF aC.length&&aC.all okF then bif av.isSome then k .ret [.ptr 0 0,.ptr 1 0,.I (bd:Int)] [some az,some (.box false [.I (pb (eS (aC.getD bd .J)) (fa (aC.getD bd .J))),.I (bd:Int)])]else k (.exit 0) [.ptr 0 0,.ptr 1 0,.I aZ] aO else none else none else none else none else k (.exit 0) aI aO) ?_;conv=>zeta
  rw[<-ai];by_cases aL:j<aC.length
  .obtain⟨aU,bc,bw,bQ,bN⟩:=ew aL an;have aw:(small (eS (aC.getD j .J)).length&&small (fa (aC.getD j .J)).length)=true:=jg cn aL;have lV:qJ aC j=(pb (eS (aC.getD j .J)) (fa (aC.getD j .J))!=0):=rfl;rw[j2 _ _ _ _ _ aL,lV];simp only[aU,bc,bw,bQ,bN,aw,cn,b4,bK,oL];show(bif(pb (eS (aC.getD j .J)) (fa (aC.getD j .J))!=0)then _ else _)=_;cases pb (eS (aC.getD j .J)) (fa (aC.getD j .J))!=0<;>rfl
  .obtain rfl:j=aC.length:=al;exact jo
 .cases h
def ia(bs:List AV)(i:Nat)(c:Int):(Int×Int)×(Int×Nat):=
 if h:i<bs.length then
  (if(aW (bs.getD i .J)==13&&(decide ((i:Int)+1<bs.length)&&aW (bs.getD (i+1) .J)==10))=true then ia bs (i+2) 0
  else if(aW (bs.getD i .J)==13||aW (bs.getD i .J)==10)=true then((11,-5),(c,i))
  else if(decide (c+1>998))=true then((1,-6),(c+1,i))
  else ia bs (i+1) (c+1))
 else((0,0),(c,i))
termination_by bs.length-i
def apX{i:Nat}{c:Int}(h:i<bs.length):ia bs i c=
  (if(aW (bs.getD i .J)==13&&(decide ((i:Int)+1<bs.length)&&aW (bs.getD (i+1) .J)==10))=true then ia bs (i+2) 0
  else if(aW (bs.getD i .J)==13||aW (bs.getD i .J)==10)=true then((11,-5),(c,i))
  else if(decide (c+1>998))=true then((1,-6),(c+1,i))
  else ia bs (i+1) (c+1)):=by
 conv=>lhs;rw[ia,dif_pos h]
def apY{c:Int}:ia bs bs.length c=((0,0),(c,bs.length)):=by rw[ia,dif_neg al]
def aaN:List AV->List (Option Row)->a6 cy
 |[.ptr 0 0,.ptr 1 0,.int .i64 c,.int .i64 i],[some (.box false [.ab (.agg [.str,.str]) aC,.ab (.int .u8) bs]),some (.box false [.int .i64 0,.int .i64 0])]=>.bt (bl bs.length i bs.length&&decide (0<=c/\c<=998)) (.cY ((ia bs i.toNat c).1.1 !=0) (.leaf (.ret,[.ptr 0 0,.ptr 1 0,.int .i64 (ia bs i.toNat c).2.1,.int .i64 ((ia bs i.toNat c).2.2:Nat)],[some (.box false [.ab fb aC,.ab fv bs]),some (.box false [.int .i64 (ia bs i.toNat c).1.1,.int .i64 (ia bs i.toNat c).1.2])])) (.leaf (.exit 2,[.ptr 0 0,.ptr 1 0,.int .i64 (ia bs i.toNat c).2.1,.int .i64 ((ia bs i.toNat c).2.2:Nat)],[some (.box false [.ab fb aC,.ab fv bs]),some (.box false [.int .i64 (ia bs i.toNat c).1.1,.int .i64 (ia bs i.toNat c).1.2])])))
 |_,_=>.no
def Q3:Ev.Loop:=⟨{len:=88,dr:=[1,2,5,6],rows:=[0,1]},dP aaN⟩
def apZ(vs:List AV)(rs:List (Option Row)):Nat:=match vs,rs with
 |[_,_,_,.int _ i],[some (.box _ [_,.ab _ bs]),_]=>((bs.length:Int)-i).toNat
 |_,_=>0
def ap0(K:List (Nat×Ev.Loop)):dj prog Q0 K aaL Q3:=by
 refine ed Q1.dX rfl (ch.nil aG) apZ (λaj vs rs k r h=>?_);unfold aaN at h;split at h
 .rename_i c i aC bs;obtain⟨aa,ai⟩:=bz h;rw[ba]at aa;obtain⟨aa,aX⟩:=aa;obtain⟨d1,d2⟩:=bH aX;obtain⟨_,an,j,rfl,aP⟩:=eA aa;rw[bK]at ai;refine bn (b:=have aI:=(Row.box false [AV.ab (Sh.agg [Sh.str,Sh.str]) aC,AV.ab (Sh.int u8) bs]);have bF:=(bs.length:Int);have cd:=[some aI,some (.box false [.I 11,.I (-5:Int)])];have dD:=(aW (bs.getD j .J));have ft:=(c+(1:Int));have gC:=(Ex.exit 2);have fQ:=(j:Int);have aO:=[AV.ptr 0 0,.ptr 1 0,.I c,.I fQ];have aZ:=(fQ+(1:Int));have cJ:=(i64.wrap aZ+(1:Int));have az:=(ia bs (i64.wrap cJ).toNat (0:Int));have bd:=[AV.ptr 0 0,.ptr 1 0,.I az.snd.fst,.I (az.snd.snd:Int)];have bI:=[some aI,some (.box false [.I az.fst.fst,.I az.fst.snd])];have fM:=(i64.wrap aZ);have aF:=(ia bs fM.toNat (i64.wrap ft));have bk:=[AV.ptr 0 0,.ptr 1 0,.I aF.snd.fst,.I (aF.snd.snd:Int)];have b3:=[some aI,some (.box false [.I aF.fst.fst,.I aF.fst.snd])];have av:=bif dD==13 then k .ret aO cd else bif dD==10 then k .ret aO cd else bif decide (i64.wrap ft>(998:Int))then k .ret [.ptr 0 0,.ptr 1 0,.I (i64.wrap ft),.I fQ] [some aI,some (.box false [.I 1,.I (-6:Int)])]else bif decide ((bF-i64.wrap aZ).toNat<(bF-fQ).toNat)then bif bl bF fM bs.length&&decide ((0:Int)<=i64.wrap ft/\i64.wrap ft<=(998:Int))then bif aF.fst.fst !=0 then k .ret bk b3 else k gC bk b3 else none else none;bif decide (fQ<bF)then bif inb fQ bs.length then bif dD==13 then bif decide (i64.wrap aZ<bF)then bif inb fM bs.length then bif(aW (bs.getD fM.toNat .J))==10 then bif decide ((bF-i64.wrap cJ).toNat<(bF-fQ).toNat)then bif bl bF (i64.wrap cJ) bs.length&&decide ((0:Int)<=(0:Int)/\(0:Int)<=(998:Int))then bif az.fst.fst !=0 then k .ret bd bI else k gC bd bI else none else none else av else none else av else av else none else k gC aO [some aI,some (.box false [.I 0,.I 0])]) ?_;conv=>zeta
  rw[<-ai];by_cases aL:j<bs.length
  .obtain⟨aU,bc,bw,bQ,bN⟩:=ew aL an;have iR:i64.wrap (c+1)=c+1:=lT _ al al;have mD:decide ((0:Int)<=0/\(0:Int)<=998)=true:=gn;rw[apX aL,aU,bc,bw,iR];have KN:∀c':Int,0<=c'->c'=c+1->(bif decide (c'>998)then
      (k Ex.ret [AV.ptr 0 0,AV.ptr 1 0,AV.int .i64 c',AV.int .i64 (j:Int)] [some (Row.box false [AV.ab (Sh.agg [Sh.str,Sh.str]) aC,AV.ab (Sh.int u8) bs]),some (Row.box false [AV.int .i64 1,AV.int .i64 (-6)])])else
      bif bl (bs.length:Int) ((j+1:Nat):Int) bs.length&&decide ((0:Int)<=c'/\c'<=998)then
      (bif(ia bs (j+1) c').1.1 !=0 then k .ret [.ptr 0 0,.ptr 1 0,.int .i64 (ia bs (j+1) c').2.1,.int .i64 ((ia bs (j+1) c').2.2:Nat)] [some (.box false [.ab fb aC,.ab fv bs]),some (.box false [.int .i64 (ia bs (j+1) c').1.1,.int .i64 (ia bs (j+1) c').1.2])]else k (.exit 2) [.ptr 0 0,.ptr 1 0,.int .i64 (ia bs (j+1) c').2.1,.int .i64 ((ia bs (j+1) c').2.2:Nat)] [some (.box false [.ab fb aC,.ab fv bs]),some (.box false [.int .i64 (ia bs (j+1) c').1.1,.int .i64 (ia bs (j+1) c').1.2])])else none)
      =(λq:(Int×Int)×(Int×Nat)=>(bif q.1.1 !=0 then k .ret [.ptr 0 0,.ptr 1 0,.int .i64 q.2.1,.int .i64 (q.2.2:Nat)] [some (.box false [.ab fb aC,.ab fv bs]),some (.box false [.int .i64 q.1.1,.int .i64 q.1.2])]else k (.exit 2) [.ptr 0 0,.ptr 1 0,.int .i64 q.2.1,.int .i64 (q.2.2:Nat)] [some (.box false [.ab fb aC,.ab fv bs]),some (.box false [.int .i64 q.1.1,.int .i64 q.1.2])])) (if(decide (c'>998))=true then((1,-6),(c',j))else ia bs (j+1) c'):=by
     intro c' a7 iD;by_cases ag:c'>998
     .rw[aS ag];rfl
     .rw[cZ ag,bQ,aS (show(0:Int)<=c'/\c'<=998 by omega)];rfl
   have KN:=KN (c+1) al rfl;by_cases aJ:j+1<bs.length
   .obtain⟨f1,f2,f3,f4,f5⟩:=ew aJ an;have j3:decide ((j:Int)+1<(bs.length:Int))=true:=aS al;rw[f1,f2,f3,f4,j3];have f6:decide (((bs.length:Int)-((j+1+1:Nat):Int)).toNat<((bs.length:Int)-(j:Int)).toNat)=true:=aS al;rw[f6,bN,mD];cases aW (bs.getD j AV.J)==13
    .cases aW (bs.getD j AV.J)==10
     .exact KN
     .rfl
    .show(bif aW (bs.getD (j+1) AV.J)==10 then _ else _)=_;cases ar:aW (bs.getD (j+1) AV.J)==10
     .simp only[Bool.and_false,oL];rfl
     .simp only[oL,nk];rfl
   .have mX:decide (((j+1:Nat):Int)<(bs.length:Int))=false:=cZ al;have j3:decide ((j:Int)+1<(bs.length:Int))=false:=cZ al;rw[mX,j3,bN];cases aW (bs.getD j AV.J)==13
    .cases aW (bs.getD j AV.J)==10
     .exact KN
     .rfl
    .rfl
  .obtain rfl:j=bs.length:=al;rw[cZ al,apY];rfl
 .cases h
def yc(aC:List AV):Nat:=(bx (qJ aC) aC.length 0).getD 0
def sK(aC bs:List AV):Int×Int:=
 bif decide ((aC.length:Int)>60)then(2,-1)else
 bif(bx (qJ aC) aC.length 0).isSome then(pb (eS (aC.getD (yc aC) .J)) (fa (aC.getD (yc aC) .J)),(yc aC:Nat))else
 bif decide ((bs.length:Int)>12000)||decide (((yd aC bs).length:Int)>12000)then(1,-4)else bif(ia bs 0 0).1.1 !=0 then(ia bs 0 0).1 else(0,0)
def aaO{aC:List AV}(h:(bx (qJ aC) aC.length 0).isSome=false):aC.all sL=true:=by
 have aJ:bx (qJ aC) aC.length 0=none:=by
  cases aH:bx (qJ aC) aC.length 0 with
  |none=>rfl
  |some q=>rw[aH]at h;cases h
 rw[ec];intro x ak;obtain⟨i,hi,rfl⟩:=vj ak;have af:=tK aJ i (iM _) hi;unfold qJ at af;have ao:pb (eS (aC.getD i .J)) (fa (aC.getD i .J))=0:=s5;have a1:=apU ao;rw[List.getD,fC hi]at a1;exact aS ⟨lp a1.1 gn,a1.2⟩
def Q4:List AV->a6 AV
 |[.agg [.ab (.agg [.str,.str]) aC,.ab (.int .u8) bs]]=>.bt (small aC.length&&(small bs.length&&aC.all okF)) (.leaf (.agg [.int .i64 (sK aC bs).1,.int .i64 (sK aC bs).2]))
 |_=>.no
def ap1:SumOK prog 62 (aK Q4)/\b5 (aK Q4):=by
 refine xZ (K:=[(4,Q2),(13,Q3)]) Q1 Tryz.func62 (bs:=[aaK,aaL]) aG (λb ag=>?_) λaj aA k r h=>?_
 .simp only[gv,mh,mi]at ag;rcases ag with rfl|rfl
  .exact⟨Q2,aG,apW _⟩
  .exact⟨Q3,aG,ap0 _⟩
 unfold Q4 at h;split at h
 .rename_i aC bs;obtain⟨aa,ai⟩:=bz h;simp only[ba]at aa;obtain⟨b2,bX,cn⟩:=aa;refine bn (b:=have av:=(bx (qJ aC) aC.length 0);have az:=(AV.agg [.I 1,.I (-4:Int)]);have aF:=(ia bs 0 (0:Int));have aI:=(aC.getD (av.getD 0) .J);bif decide ((aC.length:Int)>(60:Int))then k (.agg [.I 2,.I (-1:Int)])else bif bl (aC.length:Int) (0:Int) aC.length&&aC.all okF then bif av.isSome then k (.agg [.I (pb (eS aI) (fa aI)),.I ((av.getD 0):Int)])else bif decide ((bs.length:Int)>(12000:Int))then k az else bif decide (aC.length<=60/\bs.length<=12000)&&aC.all sL then bif decide (((yd aC bs).length:Int)>(12000:Int))then k az else bif bl (bs.length:Int) (0:Int) bs.length&&decide ((0:Int)<=(0:Int)/\(0:Int)<=(998:Int))then bif aF.fst.fst !=0 then k (.agg [.I aF.fst.fst,.I aF.fst.snd])else k (.agg [.I 0,.I 0])else none else none else none) ?_;conv=>zeta
  rw[<-ai,e1 b2,e1 bX,cn];unfold sK yc;by_cases af:(aC.length:Int)>60
  .rw[aS af];rfl
  rw[cZ af];cases aH:(bx (qJ aC) aC.length 0).isSome;rotate_left
  .rfl
  by_cases ao:(bs.length:Int)>12000
  .rw[aS ao];rfl
  rw[cZ ao,aS (show aC.length<=60/\bs.length<=12000 by omega),aaO aH];cases decide (((yd aC bs).length:Int)>12000)
  .cases(ia bs 0 0).1.1 !=0<;>rfl
  .rfl
 .cases h
noncomputable def aaP:Env:={pure:=[(8,aK tQ),(18,aK Ka),(63,aK FU),(99,aK KO),(100,aK KP)]}
def aaQ:aM prog aaP:=aM.br (aM.br (aM.br (aM.br (aM.br bV ap2) ap3) QZ) ane) At
noncomputable def aaR:Code:=((Tryz.f61.body.map c7).getD []).headD .skip
def ye(ae:List AV)(i:Nat):Int:=bif !qK (bm (ae.getD i .J))then 10 else bif !ef (iw (ae.getD i .J)) 0 7 then 3 else bif decide (kv (iT (bm (ae.getD i .J)) (ae.take i) 0)>=0)then 7 else 0
def wy(ae:List AV)(i:Nat):Bool:=ye ae i !=0
def aaS:List AV->List (Option Row)->a6 cy
 |[.ptr 0 0,.ptr 1 0,.int .i64 i],[some (.box false [.str f,.ab (.agg [.str,.int .i64]) ae,.str d]),some (.box false [.int .i64 dV,.int .i64 z2])]=>
  .bt (bl ae.length i ae.length&&ae.all eh) (h8 (wy ae) ae.length (λq=>.leaf (.ret,[.ptr 0 0,.ptr 1 0,.int .i64 (q:Nat)],[some (.box false [.str f,.ab eR ae,.str d]),some (.box false [.int .i64 (ye ae q),.int .i64 (q:Nat)])]))
   (.leaf (.exit 0,[.ptr 0 0,.ptr 1 0,.int .i64 ae.length],[some (.box false [.str f,.ab eR ae,.str d]),some (.box false [.int .i64 dV,.int .i64 z2])])) i.toNat)
 |_,_=>.no
def KQ:Ev.Loop:=⟨{len:=72,dr:=[1,2,3],rows:=[0,1]},dP aaS⟩
def ap4(vs:List AV)(rs:List (Option Row)):Nat:=match vs,rs with
 |[_,_,.int _ i],[some (.box _ [_,.ab _ ae,_]),_]=>((ae.length:Int)-i).toNat
 |_,_=>0
def ap5:dj prog aaP [(8,KQ)] aaR KQ:=by
 refine ed aaQ.dX rfl (ch.nil aG) ap4 (λaj vs rs k r h=>?_);unfold aaS at h;split at h
 .rename_i i f ae d dV z2;obtain⟨aa,ai⟩:=bz h;rw[ba]at aa;obtain⟨aa,cn⟩:=aa;obtain⟨_,an,j,rfl,aP⟩:=eA aa;rw[bK]at ai;refine bn (b:=have av:=(Row.box false [AV.str f,AV.ab (Sh.agg [Sh.str,Sh.int IntKind.i64]) ae,AV.str d]);have aI:=(List.take (j-Int.toNat (0:Int)) (List.drop 0 ae));have aO:=[some av,some (.box false [.I dV,.I z2])];have aZ:=(j:Int);have aF:=[AV.ptr 0 0,.ptr 1 0,.I aZ];have bd:=(ae.length:Int);have bk:=(ae.getD j .J);have bI:=inb aZ ae.length;have b3:=(IntKind.i64.wrap (aZ+(1:Int)));have az:=(bx (wy ae) ae.length b3.toNat);have bF:=(az.getD 0);bif decide (aZ<bd)then bif bI then bif ee (bm bk).length then bif !qK (bm bk)then k .ret aF [some av,some (.box false [.I 10,.I aZ])]else bif bI then bif !ef (iw bk) (0:Int) (7:Int)then k .ret aF [some av,some (.box false [.I 3,.I aZ])]else bif slb (0:Int) aZ ae.length then bif bI then bif small aI.length then bif decide (kv (iT (bm bk) aI 0)>=(0:Int))then k .ret aF [some av,some (.box false [.I 7,.I aZ])]else bif decide ((bd-IntKind.i64.wrap (aZ+(1:Int))).toNat<(bd-aZ).toNat)then bif bl bd b3 ae.length&&ae.all eh then bif az.isSome then k .ret [.ptr 0 0,.ptr 1 0,.I (bF:Int)] [some av,some (.box false [.I (ye ae bF),.I (bF:Int)])]else k (.exit 0) [.ptr 0 0,.ptr 1 0,.I bd] aO else none else none else none else none else none else none else none else none else k (.exit 0) aF aO) ?_;conv=>zeta
  rw[<-ai];by_cases aL:j<ae.length
  .obtain⟨aU,bc,bw,bQ,bN⟩:=ew aL an;have aw:ee (bm (ae.getD j .J)).length=true:=jg cn aL;have lV:wy ae j=((bif !qK (bm (ae.getD j .J))then 10 else bif !ef (iw (ae.getD j .J)) 0 7 then 3 else bif decide (kv (iT (bm (ae.getD j .J)) (ae.take j) 0)>=0)then 7 else 0:Int)!=0):=rfl;have e9:ye ae j=(bif !qK (bm (ae.getD j .J))then 10 else bif !ef (iw (ae.getD j .J)) 0 7 then 3 else bif decide (kv (iT (bm (ae.getD j .J)) (ae.take j) 0)>=0)then 7 else 0):=rfl;have t1:List.take (j-Int.toNat 0) (List.drop 0 ae)=ae.take j:=rfl;have s1:slb 0 (j:Int) ae.length=true:=mB al al al;have s2:small (ae.take j).length=true:=aS yQ;rw[j2 _ _ _ _ _ aL,lV];simp only[a6.run,e9];rw[aU,bc,aw,t1,s1,s2,bw,bK,bQ,bN,cn];cases qK (bm (ae.getD j .J))
   .rfl
   cases ef (iw (ae.getD j .J)) 0 7
   .rfl
   cases decide (kv (iT (bm (ae.getD j .J)) (ae.take j) 0)>=0)<;>rfl
  .obtain rfl:j=ae.length:=al;exact jo
 .cases h
def KR(ae:List AV):Nat:=(bx (wy ae) ae.length 0).getD 0
def qL(f:List UInt8)(ae:List AV)(d:List UInt8):Int×Int:=
 bif f !=[]&& !qK f then(10,-10)else bif !ef (ae.length:Int) 1 60 then(2,-11)else bif d !=[]&& !yf d then(10,-12)else
 bif(bx (wy ae) ae.length 0).isSome then(ye ae (KR ae),(KR ae:Nat))else(0,0)
def C2(f:List UInt8)(ae:List AV)(d:List UInt8):Bool:=ee f.length&&(small d.length&&(small ae.length&&ae.all eh))
def Q5:List AV->a6 AV
 |[.agg [.str f,.ab (.agg [.str,.int .i64]) ae,.str d]]=>.bt (C2 f ae d) (.leaf (.agg [.int .i64 (qL f ae d).1,.int .i64 (qL f ae d).2]))
 |_=>.no
def ap6:SumOK prog 61 (aK Q5)/\b5 (aK Q5):=by
 refine iH (K:=[(8,KQ)]) (b:=aaR) (l:=KQ) aaQ Tryz.func61 aG aG ap5 λaj aA k r h=>?_;unfold Q5 at h;split at h
 .rename_i f ae d;obtain⟨aa,ai⟩:=bz h;unfold C2 at aa;simp only[ba]at aa;obtain⟨b2,bX,c3,cn⟩:=aa;refine bn (b:=have aF:=(bx (wy ae) ae.length 0);have av:=bif bl (ae.length:Int) (0:Int) ae.length&&ae.all eh then bif aF.isSome then k (.agg [.I (ye ae (aF.getD 0)),.I ((aF.getD 0):Int)])else k (.agg [.I 0,.I 0])else none;have az:=bif !ef (ae.length:Int) (1:Int) (60:Int)then k (.agg [.I 2,.I (-11:Int)])else bif !d==([]:List UInt8)then bif small d.length then bif !yf d then k (.agg [.I 10,.I (-12:Int)])else av else none else av;bif !f==([]:List UInt8)then bif ee f.length then bif !qK f then k (.agg [.I 10,.I (-10:Int)])else az else none else az) ?_;conv=>zeta
  rw[<-ai];unfold qL KR;rw[b2,bX,e1 c3,cn];have b0:(!f==([]:List UInt8))=(f !=[]):=rfl;have bS:(!d==([]:List UInt8))=(d !=[]):=rfl;rw[b0,bS];cases f !=[]<;>cases qK f<;>cases ef (ae.length:Int) 1 60<;>cases d !=[]<;>cases yf d<;>cases(bx (wy ae) ae.length 0).isSome<;>rfl
 .cases h
def tR(f:List UInt8)(ae:List AV)(d:List UInt8)(an bs:List AV):Int×Int:=bif(qL f ae d).1==0&&(sK an bs).1 !=0 then((sK an bs).1,-30)else qL f ae d
def Av(f:List UInt8)(ae:List AV)(d:List UInt8)(an bs:List AV):Bool:=C2 f ae d&&(small an.length&&(small bs.length&&an.all okF))
def KS:List AV->a6 AV
 |[.agg [.str f,.ab (.agg [.str,.int .i64]) ae,.str d,.ab (.agg [.str,.str]) an,.ab (.int .u8) bs]]=>.bt (Av f ae d an bs) (.leaf (.agg [.int .i64 (tR f ae d an bs).1,.int .i64 (tR f ae d an bs).2]))
 |_=>.no
def ap7:SumOK prog 22 (aK KS)/\b5 (aK KS):=by
 refine eJ (aM.br (aM.br (aM.br bV QZ) ap1) ap6) Tryz.func22 aG λaj aA k r h=>?_;unfold KS at h;split at h
 .rename_i f ae d an bs;obtain⟨aa,ai⟩:=bz h;unfold Av at aa;simp only[ba]at aa;obtain⟨k9,b2,bX,cn⟩:=aa;refine bn (b:=have av:=(AV.agg [.I (qL f ae d).fst,.I (qL f ae d).snd]);have az:=small an.length&&(small bs.length&&an.all okF);bif C2 f ae d then bif(qL f ae d).fst==0 then bif az then bif(sK an bs).fst !=0 then bif az then k (.agg [.I (sK an bs).fst,.I (-30:Int)])else none else k av else none else k av else none) ?_;conv=>zeta
  rw[<-ai];unfold tR;rw[k9,b2,bX,cn];cases(qL f ae d).1==0<;>cases(sK an bs).1 !=0<;>rfl
 .cases h
def Q6:∀(ae es:List AV),ae.all u2=true->(ae.foldl rG es).length<=es.length+ae.length*1016
 |[],es,_=>bb
 |t::ae,es,h=>by simp only[lq,ba]at h;have af:=Q6 ae (rG es t) h.2;have ao:=aaT h.1;rw[aaU]at af;simp only[jw,e5];omega
def Q7:∀(ae es:List AV),ae.all wz=true->(ae.foldl tS es).length<=es.length+ae.length*8016
 |[],es,_=>bb
 |t::ae,es,h=>by simp only[lq,ba]at h;have af:=Q7 ae (tS es t) h.2;have ao:=aaV h.1;rw[aaW]at af;simp only[jw,e5];omega
noncomputable def ap8:Env:={pure:=[],opens:=[(149,cz u3),(150,cz qM),(177,cz Aw),(179,cz Ax)],conv:=true}
def ap9:aM prog ap8:=aM.flags (aq:={pure:=[],opens:=[(149,cz u3),(150,cz qM),(177,cz Aw),(179,cz Ax)]}) (aM.iS (aM.iS (aM.iS (aM.iS bV aqa) aqb) C3) Q8)
def tT(t:Int)(f:List UInt8):List AV:=kV (gy (gy [] 1) t) f
def wA(t:Int)(f:List UInt8)(ae:List AV)(d:List UInt8):List AV:=kV (ae.foldl rG (gy (tT t f) ae.length)) d
def pV(t:Int)(f:List UInt8)(ae:List AV)(d:List UInt8)(an bs:List AV):List AV:=kV (an.foldl tS (gy (wA t f ae d) an.length)) (kF bs)
def u4(f:List UInt8)(ae:List AV)(d:List UInt8)(an bs:List AV):Bool:=decide (f.length<=1000/\d.length<=1000/\ae.length<=60/\an.length<=60/\bs.length<=12000)&&(ae.all u2&&an.all wz)
def FW:List AV->a6 AV
 |[.agg [.int .i64 1,.int .i64 t,.str f,.ab (.agg [.str,.int .i64]) ae,.str d,.ab (.agg [.str,.str]) an,.ab (.int .u8) bs,.int .i64 _,.str _,.ab (.int .i64) _,.ab (.int .i64) _]]=>.bt (u4 f ae d an bs) (.leaf (.ab fv (pV t f ae d an bs)))
 |_=>.no
def aqc:SumOK prog 148 (aK FW)/\b5 (aK FW):=by
 refine eJ ap9 Tryz.func148 aG λaj aA k r h=>?_;unfold FW at h;split at h
 .rename_i t f ae d an bs a b c e;obtain⟨aa,ai⟩:=bz h;refine bn (b:=have av:=(aE+1);bif Nat.beq aE aE&&(Nat.beq av av&&decide ((gy (gy [] 1) t).length+f.length<=100000000))then bif Nat.beq aE aE&&(Nat.beq (aE+2) (aE+2)&&(Nat.beq av av&&(Nat.beq aE aE&&(decide (ae.length<=1000/\(tT t f).length<=20000000)&&ae.all u2))))then bif Nat.beq aE aE&&(Nat.beq av av&&decide ((ae.foldl rG (gy (tT t f) ae.length)).length+d.length<=100000000))then bif Nat.beq aE aE&&(Nat.beq (aE+2) (aE+2)&&(Nat.beq av av&&(Nat.beq aE aE&&(decide (an.length<=1000/\(wA t f ae d).length<=20000000)&&an.all wz))))then bif Nat.beq aE aE&&(Nat.beq av av&&decide ((an.foldl tS (gy (wA t f ae d) an.length)).length+(kF bs).length<=100000000))then k (.ab fv (pV t f ae d an bs))else none else none else none else none else none) ?_;conv=>zeta
  unfold u4 at aa;simp only[ba]at aa;obtain⟨aX,ah,hF⟩:=aa;obtain⟨d1,d2,d3,d4,d5⟩:=bH aX;have l0:(gy (gy [] 1) t).length=16:=by rw[qb,qb];rfl
  have b1:(tT t f).length=24+f.length:=by unfold tT;rw[sM,l0]
  have cS:=Q6 ae (gy (tT t f) ae.length) ah;rw[qb,b1]at cS;have fq:(wA t f ae d).length=(ae.foldl rG (gy (tT t f) ae.length)).length+8+d.length:=by unfold wA;rw[sM]
  have tU:=Q7 an (gy (wA t f ae d) an.length) hF;rw[qb,fq]at tU;have aaX:(kF bs).length=bs.length:=g' _;have eO:=b9 aE;have eW:=b9 (aE+1);have kq:=b9 (aE+2);refine aT (a' (aV eO (aV eW (aS al)))) ?_;refine aT (a' (aV eO (aV kq (aV eW (aV eO (aV (aS ⟨al,al⟩) ah)))))) ?_;refine aT (a' (aV eO (aV eW (aS al)))) ?_;refine aT (a' (aV eO (aV kq (aV eW (aV eO (aV (aS ⟨al,al⟩) hF)))))) ?_;refine aT (a' (aV eO (aV eW (aS al)))) ?_;exact ai
 .cases h
def aaY{t:Int}{f:List UInt8}{ae:List AV}{d:List UInt8}{an:List AV}(aa:u4 f ae d an bs=true):(pV t f ae d an bs).length<=600000:=by
 unfold u4 at aa;simp only[ba]at aa;obtain⟨aX,ah,hF⟩:=aa;obtain⟨d1,d2,d3,d4,d5⟩:=bH aX;have l0:(gy (gy [] 1) t).length=16:=by rw[qb,qb];rfl
 have b1:(tT t f).length=24+f.length:=by unfold tT;rw[sM,l0]
 have cS:=Q6 ae (gy (tT t f) ae.length) ah;rw[qb,b1]at cS;have fq:(wA t f ae d).length=(ae.foldl rG (gy (tT t f) ae.length)).length+8+d.length:=by unfold wA;rw[sM]
 have tU:=Q7 an (gy (wA t f ae d) an.length) hF;rw[qb,fq]at tU;have aaX:(kF bs).length=bs.length:=g' _;unfold pV;rw[sM];omega
noncomputable def aqd:Env:={pure:=[(148,aK FW),(151,aK FX)],opens:=[(149,cz u3),(150,cz qM)],conv:=true}
def aqe:aM prog aqd:=aM.flags (aq:={pure:=[(148,aK FW),(151,aK FX)],opens:=[(149,cz u3),(150,cz qM)]}) (aM.br (aM.br (aM.iS (aM.iS bV C3) Q8) aqf) aqc)
def tV(b:List AV):List AV:=gy (kV [] (kF b)) (IntKind.i64.wrap (C4 14695981039346656037 b))
def Q9:List AV->a6 AV
 |[.agg [.int .i64 1,.int .i64 t,.str f,.ab (.agg [.str,.int .i64]) ae,.str d,.ab (.agg [.str,.str]) an,.ab (.int .u8) bs,.int .i64 _,.str _,.ab (.int .i64) _,.ab (.int .i64) _]]=>.bt (u4 f ae d an bs) (.leaf (.ab fv (tV (pV t f ae d an bs))))
 |_=>.no
def aqg:SumOK prog 109 (aK Q9)/\b5 (aK Q9):=by
 refine eJ aqe Tryz.func109 aG λaj aA k r h=>?_;unfold Q9 at h;split at h
 .rename_i t f ae d an bs a b c e;obtain⟨aa,ai⟩:=bz h;refine bn (b:=have av:=(pV t f ae d an bs);bif u4 f ae d an bs then bif Nat.beq aE aE&&decide ((kF av).length<=100000000)then bif small av.length then bif Nat.beq aE aE&&(Nat.beq (aE+1) (aE+1)&&decide ((kV [] (kF av)).length<=900000000))then k (.ab fv (tV av))else none else none else none else none) ?_;conv=>zeta
  have b1:=aaY (t:=t) aa;have aaX:(kF (pV t f ae d an bs)).length=(pV t f ae d an bs).length:=g' _;refine aT (a' aa) (aT (a' (aV (b9 _) (aS al))) (aT (a' (aS al)) (aT (a' (aV (b9 _) (aV (b9 _) (aS ?_)))) ai)));rw[sM,gw];omega
 .cases h
def aqh{b:List AV}(h:b.length<=600000):(tV b).length<=600016:=by unfold tV;rw[qb,sM,gw];have:(kF b).length=b.length:=g' _;omega
def Q':List AV->a6 AV
 |[.agg [.int .i64 1,.int .i64 t,.str f,.ab (.agg [.str,.int .i64]) ae,.str d,.ab (.agg [.str,.str]) an,.ab (.int .u8) bs,.int .i64 0,.str [],.ab (.int .i64) [],.ab (.int .i64) []]]=>.leaf (.bool true)
 |_=>.no
def aqi:SumOK prog 145 (aK Q')/\b5 (aK Q'):=by
 refine eJ bV Tryz.func145 aG λaj aA k r h=>?_;unfold Q' at h;split at h
 .rename_i t f ae d an bs;refine bn (b:=k (.bool (IntKind.i64.wrap ((([]:List AV).length:Int)+(([]:List AV).length:Int))==0))) ?_;exact h
 .cases h
def Ay(f:List UInt8)(ae:List AV)(d:List UInt8)(an bs:List AV):Bool:=(ee f.length&&(small ae.length&&(ae.all eh&&ee d.length)))&&(small an.length&&(an.all okF&&decide (bs.length<=141000000000000)))
def Ra:List AV->a6 AV
 |[.agg [.int .i64 1,.int .i64 t,.str f,.ab (.agg [.str,.int .i64]) ae,.str d,.ab (.agg [.str,.str]) an,.ab (.int .u8) bs,.int .i64 0,.str [],.ab (.int .i64) [],.ab (.int .i64) []]]=>.bt (eG t&&Ay f ae d an bs) (.cY ((iU f ae d an bs).1 !=0) (.leaf (.agg [.int .i64 (iU f ae d an bs).1,.int .i64 (-6)])) (.leaf (.agg [.int .i64 0,.int .i64 0])))
 |_=>.no
def aqj:SumOK prog 107 (aK Ra)/\b5 (aK Ra):=by
 refine eJ (aM.br (aM.br (aM.br (aM.br (aM.br (aM.br bV aqi) QB) rz) ry) CL) uU) Tryz.func107 aG λaj aA k r h=>?_;unfold Ra at h;split at h
 .rename_i t f ae d an bs;obtain⟨aa,ai⟩:=bz h;rw[ba]at aa;obtain⟨b2,bX⟩:=aa;change(a6.cY _ _ _).run k=some r at ai;refine bn (b:=bif !eG t then k (.agg [.I 3,.I (-7:Int)])else bif ee f.length&&(small ae.length&&(ae.all eh&&ee d.length))&&(small an.length&&(an.all okF&&decide (bs.length<=141000000000000)))then bif(iU f ae d an bs).fst !=0 then k (.agg [.I (iU f ae d an bs).fst,.I (-6:Int)])else k (.agg [.I 0,.I 0])else none) ?_;refine aT (fP (by rw[b2];rfl)) (aT (a' bX) ?_);rw[<-ai];rfl
 .cases h
noncomputable def aqk:Env:={pure:=[(28,aK uY)],vy:=4}
def aql:aM prog aqk:=aM.flags (aM.br bV CL)
def FY:List AV->a6 AV
 |[.ab (.int .i64) [.int .i64 a,.int .i64 b]]=>.leaf (.bool (eG a&&eG b))
 |_=>.no
def aqm:SumOK prog 120 (aK FY)/\b5 (aK FY):=by
 refine⟨aae aql Tryz.func120 λaj aA k r h=>?_,qD _⟩;change(FY aA).run k=some r at h;unfold FY at h;split at h
 .rename_i a b;refine bn (b:=bif !eG ([AV.I a].headD .J).toInt then k (.bool false)else bif !eG ([AV.I b].headD .J).toInt then k (.bool false)else k (.bool true)) ?_;rw[<-h];show(bif !eG a then k (.bool false)else bif !eG b then k (.bool false)else k (.bool true))=k (.bool (eG a&&eG b));cases eG a<;>cases eG b<;>rfl
 .cases h
def C5(d:Int):Int:=if 14400<2*d then 14400 else 2*d
def me:Nat->Int->Int->Int×Int
 |0,d,i=>(d,i)
 |n+1,d,i=>bif decide (d<14400)then me n (C5 d) (i+1)else(d,i)
def KT{d:Int}(af:60<=d):60<=C5 d/\C5 d<=14400:=by unfold C5;split<;>omega
def aaZ:∀(n:Nat)(d i:Int),60<=d->d<=14400->60<=(me n d i).1/\(me n d i).1<=14400
 |0,d,i,af,ao=>⟨af,ao⟩
 |n+1,d,i,af,ao=>by
  unfold me;by_cases h:d<14400
  .rw[aS h,b4];exact aaZ n _ _ (KT af).1 (KT af).2
  .rw[cZ h,cU];exact⟨af,ao⟩
def aa0{n:Int}(h:eG n=true): -68719476736<=n/\n<=68719476736:=by unfold eG at h;simp only[ba,fD]at h;exact⟨h.1,h.2⟩
noncomputable def aa1:Env:={pure:=[(29,aK pQ),(39,aK o9),(120,aK FY)]}
def aa2:aM prog aa1:=aM.br (aM.br (aM.br bV aqm) rz) ry
noncomputable def aa3:Code:=((Tryz.f77.body.map c7).getD []).headD .skip
def aa4:List AV->List (Option Row)->a6 cy
 |[.int .i64 x,.int .i64 cE,.int .i64 y,.int .i64 z,.bool b,.ptr 2 0,.int .i64 d,.int .i64 i],[some (.box false [.int .i64 dV,.int .i64 z2])]=>.bt (decide (1<=i/\i<=1000001/\cE<=1000000/\60<=d/\d<=14400)) (.leaf (.exit 1,[.int .i64 x,.int .i64 cE,.int .i64 y,.int .i64 z,.bool b,.ptr 2 0,.int .i64 (me (cE-i).toNat d i).1,.int .i64 (me (cE-i).toNat d i).2],[some (.box false [.int .i64 dV,.int .i64 z2])]))
 |_,_=>.no
def KU:Ev.Loop:=⟨{len:=56,dr:=[0,1,2,6,7,8,9,10],rows:=[2]},dP aa4⟩
def aqn(vs:List AV)(_:List (Option Row)):Nat:=match vs with
 |[_,.int _ t,_,_,_,_,_,.int _ i]=>(t-i).toNat
 |_=>0
def aqo:dj prog aa1 [(11,KU)] aa3 KU:=by
 refine ed aa2.dX rfl (ch.nil aG) aqn (λaj vs rs k r h=>?_);unfold aa4 at h;split at h
 .rename_i x cE y z b d i dV z2;obtain⟨aa,ai⟩:=bz h;obtain⟨af,ao,a1,ca,dA⟩:=bH aa;refine bn (b:=bif decide (i<cE)then bif decide (d<(14400:Int))then bif decide ((cE-i64.wrap (i+(1:Int))).toNat<(cE-i).toNat)then bif decide ((1:Int)<=i64.wrap (i+(1:Int))/\i64.wrap (i+(1:Int))<=(1000001:Int)/\cE<=(1000000:Int)/\((60:Int)<=if(14400:Int)<i64.wrap ((2:Int)*d)then(14400:Int)else i64.wrap ((2:Int)*d))/\(if(14400:Int)<i64.wrap ((2:Int)*d)then(14400:Int)else i64.wrap ((2:Int)*d))<=(14400:Int))then k (.exit 1) [.I x,.I cE,.I y,.I z,.bool b,.ptr 2 0,.I (me (cE-i64.wrap (i+(1:Int))).toNat (if(14400:Int)<i64.wrap ((2:Int)*d)then(14400:Int)else i64.wrap ((2:Int)*d)) (i64.wrap (i+(1:Int)))).fst,.I (me (cE-i64.wrap (i+(1:Int))).toNat (if(14400:Int)<i64.wrap ((2:Int)*d)then(14400:Int)else i64.wrap ((2:Int)*d)) (i64.wrap (i+(1:Int)))).snd] [some (.box false [.I dV,.I z2])]else none else none else k (.exit 1) [.I x,.I cE,.I y,.I z,.bool b,.ptr 2 0,.I d,.I i] [some (.box false [.I dV,.I z2])]else k (.exit 1) [.I x,.I cE,.I y,.I z,.bool b,.ptr 2 0,.I d,.I i] [some (.box false [.I dV,.I z2])]) ?_;rw[<-ai];by_cases aL:i<cE
  .obtain⟨n,aJ⟩:∃n,(cE-i).toNat=n+1:=⟨(cE-i).toNat-1,al⟩;have j3:(cE-(i+1)).toNat=n:=al;have hu:me (n+1) d i=bif decide (d<14400)then me n (C5 d) (i+1)else(d,i):=rfl;rw[aJ,hu];have w1:i64.wrap (i+1)=i+1:=lT _ al al;have ga:i64.wrap (2*d)=2*d:=lT _ al al;refine aT (a' (aS aL)) ?_;rw[w1,ga,j3];by_cases aX:d<14400
   .have ay:=KT ca;unfold C5 at ay;refine aT (a' (aS aX)) (aT (a' (aS al)) (aT (a' (aS ⟨al,al,a1,ay.1,ay.2⟩)) ?_));rw[aS aX];rfl
   .refine aT (fP (cZ aX)) ?_;rw[cZ aX];rfl
  .refine aT (fP (cZ aL)) ?_;rw[show(cE-i).toNat=0 by omega];rfl
 .cases h
def nS(x y:Int):Bool:=decide (y<x+345600)
def yg(x t y:Int):Int:=if x+345600<y+(me (t-1).toNat 60 1).1 then x+345600 else y+(me (t-1).toNat 60 1).1
def Az(x t y:Int):Int:=if 68719476736<yg x t y then 68719476736 else yg x t y
def FZ:List AV->a6 AV
 |[.int .i64 x,.int .i64 t,.int .i64 y]=>.bt (eG x&&(eG y&&decide (1<=t/\t<=1000000/\x<=y))) (.cY (nS x y) (.leaf (.tup [.int .i64 (Az x t y),.bool true,.agg [.int .i64 0,.int .i64 0]])) (.leaf (.tup [.int .i64 0,.bool false,.agg [.int .i64 0,.int .i64 0]])))
 |_=>.no
def aqp:SumOK prog 77 (aK FZ)/\b5 (aK FZ):=by
 refine iH (K:=[(11,KU)]) (b:=aa3) (l:=KU) aa2 Tryz.func77 aG aG aqo λaj aA k r h=>?_;unfold FZ at h;split at h
 .rename_i x t y;obtain⟨aa,ai⟩:=bz h;refine bn (b:=bif !(eG x&&eG y)then k (.tup [.I 0,.bool false,.agg [.I 3,.I (-2:Int)]])else bif decide (t<(1:Int))then k (.tup [.I 0,.bool false,.agg [.I 3,.I (-3:Int)]])else bif decide (t>(1000000:Int))then k (.tup [.I 0,.bool false,.agg [.I 3,.I (-3:Int)]])else bif decide (y<x)then k (.tup [.I 0,.bool false,.agg [.I 19,.I (-4:Int)]])else bif decide (y>=i64.wrap (x+(345600:Int)))then k (.tup [.I 0,.bool false,.agg [.I 0,.I 0]])else bif decide ((1:Int)<=(1:Int)/\(1:Int)<=(1000001:Int)/\t<=(1000000:Int)/\(60:Int)<=(60:Int)/\(60:Int)<=(14400:Int))then k (.tup [.I (if(68719476736:Int)<if i64.wrap (x+(345600:Int))<i64.wrap (y+(me (t-(1:Int)).toNat (60:Int) (1:Int)).fst)then i64.wrap (x+(345600:Int))else i64.wrap (y+(me (t-(1:Int)).toNat (60:Int) (1:Int)).fst)then(68719476736:Int)else if i64.wrap (x+(345600:Int))<i64.wrap (y+(me (t-(1:Int)).toNat (60:Int) (1:Int)).fst)then i64.wrap (x+(345600:Int))else i64.wrap (y+(me (t-(1:Int)).toNat (60:Int) (1:Int)).fst)),.bool true,.agg [.I 0,.I 0]])else none) ?_;simp only[ba]at aa;obtain⟨b2,bX,c3⟩:=aa;obtain⟨c3,mu,c5⟩:=bH c3;obtain⟨iI,h9⟩:=aa0 b2;obtain⟨o4,As⟩:=aa0 bX;obtain⟨d1,d2⟩:=aaZ (t-1).toNat 60 1 gn gn;have w1:i64.wrap (x+345600)=x+345600:=lT _ al al;have ga:i64.wrap (y+(me (t-1).toNat 60 1).1)=y+(me (t-1).toNat 60 1).1:=lT _ al al;rw[w1,ga,b2,bX];refine aT (fP rfl) (aT (fP (cZ al)) (aT (fP (cZ al)) (aT (fP (cZ al)) ?_)));change(a6.cY _ _ _).run k=some r at ai;rw[<-ai];unfold nS;by_cases ao:y<x+345600
  .refine aT (fP (cZ al)) (aT (a' (aS ⟨al,al,mu,al,al⟩)) ?_);rw[aS ao];rfl
  .refine aT (a' (aS al)) ?_;rw[cZ ao];rfl
 .cases h
def nd(n:Int):Bool:=decide (n<1)||decide (n>4)
def hg(n:Int):Bool:=n==2||n==4
def KV:List AV->a6 AV
 |[.int .i64 n]=>.leaf (.bool (nd n))
 |_=>.no
def aqq:SumOK prog 43 (aK KV)/\b5 (aK KV):=by
 refine eJ bV Tryz.func43 aG λaj aA k r h=>?_;unfold KV at h;split at h
 .rename_i n;have ai:=h;refine bn (b:=bif decide (n<(1:Int))then k (.bool true)else k (.bool (decide (n>(4:Int))))) ?_;rw[<-ai];show _=k (.bool (decide (n<1)||decide (n>4)));cases decide (n<(1:Int))<;>rfl
 .cases h
def C6:List AV->a6 AV
 |[.int .i64 n]=>.leaf (.bool (hg n))
 |_=>.no
def aa5:SumOK prog 44 (aK C6)/\b5 (aK C6):=by
 refine eJ bV Tryz.func44 aG λaj aA k r h=>?_;unfold C6 at h;split at h
 .rename_i n;have ai:=h;refine bn (b:=bif n==2 then k (.bool true)else k (.bool (n==4))) ?_;rw[<-ai];show _=k (.bool (n==2||n==4));cases n==2<;>rfl
 .cases h
noncomputable def aa6:Env:={pure:=[(43,aK KV),(44,aK C6)]}
def aa7:aM prog aa6:=aM.br (aM.br bV aa5) aqq
noncomputable def aa8:Code:=((Tryz.f76.body.map c7).getD []).headD .skip
def KW(f:Nat)(p:Int->Bool)(es:List AV)(z n i:Int):a6 cy:=.bt (bl n i es.length) (h8 (λi=>p (aW (es.getD i .J))) es.length (λq=>.leaf (.ret,[.ab gm es,.fn f [],.int .i64 (q:Nat),.int .i64 es.length,.int .i64 (q:Nat)],[]))
 (.leaf (.exit 0,[.ab gm es,.fn f [],.int .i64 z,.int .i64 es.length,.int .i64 es.length],[])) i.toNat)
def aa9:List AV->List (Option Row)->a6 cy
 |[.ab (.int .i64) es,.fn 43 [],.int .i64 z,.int .i64 n,.int .i64 i],[]=>KW 43 nd es z n i
 |[.ab (.int .i64) es,.fn 44 [],.int .i64 z,.int .i64 n,.int .i64 i],[]=>KW 44 hg es z n i
 |_,_=>.no
def KX:Ev.Loop:=⟨{len:=19,dr:=[0,1,4,7,8]},dP aa9⟩
def aqr:dj prog aa6 [(2,KX)] aa8 KX:=by
 refine ed aa7.dX rfl (ch.nil aG) CG (λaj vs rs k r h=>?_);unfold aa9 at h;split at h
 .rename_i es z n i;unfold KW at h;obtain⟨aa,ai⟩:=bz h;obtain⟨rfl,an,j,rfl,aP⟩:=eA aa;rw[bK]at ai;refine bn (b:=have av:=(es.length:Int);have aF:=(j:Int);have az:=(i64.wrap (aF+(1:Int)));have aI:=(Sh.int .i64);bif decide (aF<av)then bif inb aF es.length then bif nd (aW (es.getD j .J))then k .ret [.ab aI es,.fn 43 [],.I aF,.I av,.I aF] []else bif decide ((av-i64.wrap (aF+(1:Int))).toNat<(av-aF).toNat)then bif bl av az es.length then bif(bx (λi=>nd (aW (es.getD i .J))) es.length az.toNat).isSome then k .ret [.ab aI es,.fn 43 [],.I (((bx (λi=>nd (aW (es.getD i .J))) es.length az.toNat).getD 0):Int),.I av,.I (((bx (λi=>nd (aW (es.getD i .J))) es.length az.toNat).getD 0):Int)] []else k (.exit 0) [.ab aI es,.fn 43 [],.I z,.I av,.I av] []else none else none else none else k (.exit 0) [.ab aI es,.fn 43 [],.I z,.I av,.I aF] []) ?_;conv=>zeta
  rw[<-ai];by_cases aL:j<es.length
  .obtain⟨aU,bc,bw,bQ,bN⟩:=ew aL an;rw[j2 _ _ _ _ _ aL];simp only[aU,bc,bw,bQ,bN,b4,bK];cases nd (aW (es.getD j .J))<;>rfl
  .obtain rfl:j=es.length:=al;exact jo
 .rename_i es z n i;unfold KW at h;obtain⟨aa,ai⟩:=bz h;obtain⟨rfl,an,j,rfl,aP⟩:=eA aa;rw[bK]at ai;refine bn (b:=have av:=(es.length:Int);have aF:=(j:Int);have az:=(i64.wrap (aF+(1:Int)));have aI:=(Sh.int .i64);bif decide (aF<av)then bif inb aF es.length then bif hg (aW (es.getD j .J))then k .ret [.ab aI es,.fn 44 [],.I aF,.I av,.I aF] []else bif decide ((av-i64.wrap (aF+(1:Int))).toNat<(av-aF).toNat)then bif bl av az es.length then bif(bx (λi=>hg (aW (es.getD i .J))) es.length az.toNat).isSome then k .ret [.ab aI es,.fn 44 [],.I (((bx (λi=>hg (aW (es.getD i .J))) es.length az.toNat).getD 0):Int),.I av,.I (((bx (λi=>hg (aW (es.getD i .J))) es.length az.toNat).getD 0):Int)] []else k (.exit 0) [.ab aI es,.fn 44 [],.I z,.I av,.I av] []else none else none else none else k (.exit 0) [.ab aI es,.fn 44 [],.I z,.I av,.I aF] []) ?_;conv=>zeta
  rw[<-ai];by_cases aL:j<es.length
  .obtain⟨aU,bc,bw,bQ,bN⟩:=ew aL an;rw[j2 _ _ _ _ _ aL];simp only[aU,bc,bw,bQ,bN,b4,bK];cases hg (aW (es.getD j .J))<;>rfl
  .obtain rfl:j=es.length:=al;exact jo
 .cases h
def KY(p:Int->Bool)(es:List AV):a6 AV:=.bt (small es.length) (h8 (λi=>p (aW (es.getD i .J))) es.length (λq=>.leaf (.int .i64 (q:Nat))) (.leaf (.int .i64 (-1))) 0)
def Rb:List AV->a6 AV
 |[.ab (.int .i64) es,.fn 43 []]=>KY nd es
 |[.ab (.int .i64) es,.fn 44 []]=>KY hg es
 |_=>.no
def aqs:SumOK prog 76 (aK Rb)/\b5 (aK Rb):=by
 refine iH (K:=[(2,KX)]) (b:=aa8) (l:=KX) aa7 Tryz.func76 aG aG aqr λaj aA k r h=>?_;unfold Rb at h;split at h
 .rename_i es;unfold KY at h;obtain⟨aa,ai⟩:=bz h;refine bn (b:=bif bl (es.length:Int) (0:Int) es.length then bif(bx (λi=>nd (aW (es.getD i .J))) es.length 0).isSome then k (.I (((bx (λi=>nd (aW (es.getD i .J))) es.length 0).getD 0):Int))else k (.I (-1:Int))else none) ?_;rw[<-ai,e1 aa];rfl
 .rename_i es;unfold KY at h;obtain⟨aa,ai⟩:=bz h;refine bn (b:=bif bl (es.length:Int) (0:Int) es.length then bif(bx (λi=>hg (aW (es.getD i .J))) es.length 0).isSome then k (.I (((bx (λi=>hg (aW (es.getD i .J))) es.length 0).getD 0):Int))else k (.I (-1:Int))else none) ?_;rw[<-ai,e1 aa];rfl
 .cases h
def nT(p:Int->Bool)(es:List AV):Bool:=es.any λe=>p (aW e)
def F0:List AV->a6 AV
 |[.ab (.int .i64) es,.fn 43 []]=>.bt (small es.length) (.leaf (.bool (nT nd es)))
 |[.ab (.int .i64) es,.fn 44 []]=>.bt (small es.length) (.leaf (.bool (nT hg es)))
 |_=>.no
def aba(p:Int->Bool)(es:List AV):nT p es=(bx (λi=>p (aW (es.getD i .J))) es.length 0).isSome:=by
 cases aR:bx (λi=>p (aW (es.getD i .J))) es.length 0 with
 |none=>have aJ:=tK aR;unfold nT;rw[Option.isSome_none,A2];intro x ak;obtain⟨j,aP,rfl⟩:=List.mem_iff_getElem.1 ak;have:=aJ j (iM _) aP;rw[List.getD,fC aP]at this;simpa using this
 |some q=>obtain⟨_,ao,a1,_⟩:=sA aR;unfold nT;rw[Option.isSome_some,Dx];refine⟨es[q],p3 ao,?_⟩;rw[List.getD,fC ao]at a1;exact a1
def aqt:SumOK prog 42 (aK F0)/\b5 (aK F0):=by
 refine eJ (aM.br bV aqs) Tryz.func42 aG λaj aA k r h=>?_;unfold F0 at h;split at h
 .rename_i es;obtain⟨aa,ai⟩:=bz h;refine bn (b:=bif small es.length then bif(bx (λi=>nd (aW (es.getD i .J))) es.length 0).isSome then k (.bool (decide ((((bx (λi=>nd (aW (es.getD i .J))) es.length 0).getD 0):Int)>=(0:Int))))else k (.bool (decide ((-1:Int)>=(0:Int))))else none) ?_;rw[<-ai,aa,aba];cases(bx (λi=>nd (aW (es.getD i .J))) es.length 0).isSome
  .rfl
  .exact TR
 .rename_i es;obtain⟨aa,ai⟩:=bz h;refine bn (b:=bif small es.length then bif(bx (λi=>hg (aW (es.getD i .J))) es.length 0).isSome then k (.bool (decide ((((bx (λi=>hg (aW (es.getD i .J))) es.length 0).getD 0):Int)>=(0:Int))))else k (.bool (decide ((-1:Int)>=(0:Int))))else none) ?_;rw[<-ai,aa,aba];cases(bx (λi=>hg (aW (es.getD i .J))) es.length 0).isSome
  .rfl
  .exact TR
 .cases h
end Go.Proofs.YtijdnecnjenleaaGreatDoor
namespace Go.Ev
open IntKind
variable{S:Nat->Prop}
def Rc:AV->Bool
 |.int .. |.bool _|.str _|.ab .. |.bf _=>true
 |_=>false
def aqu{w:World}{β:cD}{v:AV}{u:Value}(aa:Rc v=true)(h:VRel w S β v u):VRel w S cq v u:=by
 cases h<;>first|(cases aa;done)|skip
 .exact .int _ _ _
 .exact .bool _ _
 .exact .str _ _
 .exact .ab _ _ _ _ _ _ _ vu vu vu vu vu vu vu vu
 .exact .bf _ _ _
def aqv{w:World}{β:cD}{cs:List AV}{us:List Value}(aa:cs.all Rc=true)(h:VRels w S β cs us):VRels w S cq cs us:=by refine⟨h.1,λj c u aP hu=>?_⟩;exact aqu (ec.1 aa c (pk aP)) (h.2 j c u aP hu)
def eb.aqw{w:World}{B j5:Nat->Prop}{β:cD}{id:Nat}{o:Option Nat}{r:Row}(h:eb w S j5 β id o r)(dy:∀b,B b->j5 b):eb w S B β id o r:=by
 cases r with
 |box bW cs=>obtain⟨g,vs,v,af,ao,a1,ca,dA,gB,pO⟩:=h;exact⟨g,vs,v,af,ao,a1,ca,dA,gB,λh=>pO (dy _ h)⟩
 |arr bW s e es dm=>obtain⟨a7,v,sp,xs,af,ao,a1,ca,dA,e2⟩:=h;refine⟨a7,v,sp,xs,af,ao,a1,ca,dA,e2.imp (λh=>h) λ⟨g,bj,gM,kW,tW,uI⟩=>⟨g,bj,gM,kW,λh=>tW (dy _ h),uI⟩⟩
 |cj bW s e pre cs post=>obtain⟨a7,af,g,bj,sp,xs,us,cm,ao,a1,ca,dA,gB,pO,vZ,tA,FA,QT⟩:=h;exact⟨a7,af,g,bj,sp,xs,us,cm,ao,a1,ca,dA,gB,pO,vZ,tA,λh=>FA (dy _ h),QT⟩
def Rd:AV->Bool
 |.own i=>i==aE
 |.int .. |.bool _|.str _=>true
 |_=>false
theorem fH.aqx{P:Program}{f:FuncId}{p fk:List AV->List Row->a6 hf}(h:fH P f (cz p))
  (au:∀aA rows,fk aA rows=.no\/(∃t,fk aA rows=.bt false t)\/∃(s s2:Sh)(e bc:TypeId)(pre cs post ws:List AV)(x:AV)(dm:Option (List AV))(c:Bool)(v:AV)(cf:List Row),rows=[.cj false s e pre (cs++[.own (aE+1)]) post,.arr false s2 bc ws dm]/\
   cs.all Rc=true/\x.cells=cs++[.ab s2 ws]/\cb s x=true/\aA.all Rd=true/\fk aA rows=.bt c (.leaf (v,[none,none],cf))/\(c=true->p aA [.arr false s e (pre++x::post) none]=.bt c (.leaf (v,[none],cf)))):fH P f (cz fk)/\hA (cz fk):=by
 refine⟨λaj w S B β og aA rows args k r hh dy gK ar hF=>?_,kQ _⟩
 rcases au aA rows with dw|⟨t0,dw⟩|⟨s,s2,e,bc,pre,cs,post,ws,x,dm,c,v,cf,rfl,gh,ak,an,I6,aU,bw⟩
 .exact TA
 .exact TA
 .have qZ:(fk aA [.cj false s e pre (cs++[.own (aE+1)]) post,.arr false s2 bc ws dm]).run (λq=>k q.1 q.2.1 q.2.2)=some r:=hF;rw[aU]at qZ;obtain⟨aa,ai⟩:=bz qZ;have D':=bw aa;have bq:=hh.row aE (.cj false s e pre (cs++[.own (aE+1)]) post) (by simp only[ik,lookup,dE]);have mU:lookup (ik aE [.cj false s e pre (cs++[.own (aE+1)]) post,.arr false s2 bc ws dm]) (aE+1)=some (.arr false s2 bc ws dm):=by
    have:aE≠aE+1:=al;simp only[ik,lookup,c0 this,dE]
  have aqy:=hh.row (aE+1) _ mU;have rf:∀g,og (aE+1)=some g->¬B g:=aqy.place.2;have afh:∀g fm,og aE=some g->og (aE+1)=some fm->g≠fm:=λg fm af ao e=>by subst e;have:=hh.inj _ _ _ af ao;omega
  have uk:cB (ik aE [.cj false s e pre (cs++[.own (aE+1)]) post,.arr false s2 bc ws dm]) depth (.own (aE+1))=some (.ab s2 ws,[aE+1]):=by show cB _ (11+1) _=_;simp only[cB,mU]
  have Cy:∀b,S b->cr S og [aE+1] b:=λb ag=>.inl ag;have aqz:eb w (cr S og [aE+1]) (cr B og [aE+1]) (λid=>if id=aE then β id else none) aE (og aE) (.arr false s e (pre++x::post) none):=by
   obtain⟨a7,ay,g,bj,sp,xs,us,cm,lM,j8,aw,ag,af,v1,v2,v3,fj,aqA,hm,hi,eC⟩:=bq;have hlen:(pre++x::post).length=pre.length+(post.length+1):=bb;have aqB:VRels w (cr S og [aE+1]) cq x.cells us:=by
    rw[ak];have b1:us.length=cs.length+1:=by rw[v2.1];simp
    have t1:=v2.take cs.length;have t2:=v2.drop cs.length;rw[List.take_left]at t1;rw[List.drop_left]at t2;rw[<-uh cs.length us];refine((aqv gh t1).hk Cy).append ?_;obtain⟨u,lb,hu,ao,a1⟩:=t2.inv;rw[hu,a1.gf];exact VRels.cons (oU (w:=w) (S:=S) (B:=B) (β:=β) (og:=og) hh.row depth _ _ _ _ uk ao) VRels.nil
   refine⟨a7,_,sp,xs++(us++cm),λy aN=>?_,(λc h=>cM),(dE rfl).trans ag,af,?_,.inr ⟨g,bj,aw,by rw[hlen],?_,aqA,by rw[hlen];exact hm,λ_=>?_,(λh=>cM)⟩⟩
   .grind
   .have aR:flat (pre++x::post++sp)=flat pre++(x.cells++flat (post++sp)):=by
      simp only[flat,List.flatMap_append,mg,nm]
    rw[aR];exact(v1.hk Cy).append (aqB.append (v3.hk Cy))
   .rintro(hy|⟨i,rX,hy⟩)
    .exact fj hy
    .exact T3
   .rintro(hy|⟨i,rX,hy⟩)
    .exact hi rfl hy
    .exact T3
  have Ol:Heap w (cr S og [aE+1]) (cr B og [aE+1]) (λid=>if id=aE then β id else none) og (ik aE [.arr false s e (pre++x::post) none]):=by
   refine⟨λid y aN=>?_,hh.inj,hh.lt,λid y aN=>?_,λb ag=>?_,λb ag=>?_⟩
   .by_cases hid:aE=id
    .subst hid;simp only[ik,lookup,dE]at aN;cases aN;exact aqz
    .simp only[ik,lookup,c0 hid]at aN;cases aN
   .change(if id=aE then β id else none)=some y at aN;split at aN
    .exact hh.one id y aN
    .cases aN
   .rcases ag with ag|⟨i,_,ag⟩
    .exact hh.dF b ag
    .exact hh.lt i b ag
   .rcases ag with ag|⟨i,_,ag⟩
    .exact hh.dZ b ag
    .exact hh.lt i b ag
  have jN:VRels w (cr S og [aE+1]) (λid=>if id=aE then β id else none) aA args:=by
   refine⟨ar.1,λj k9 u aP hu=>?_⟩;have ri:=ec.1 I6 k9 (pk aP);have aD:=(ar.2 j k9 u aP hu).hk Cy;cases aD<;>first|(cases ri;done)|skip
   .exact .int _ _ _
   .exact .bool _ _
   .exact .str _ _
   .rename_i id wd ag;obtain rfl:id=aE:=by simpa[Rd]using ri
    exact .own _ _ _ wd ((dE rfl).trans ag)
  have bu:=h (AV×List (Option Row)×List Row) w (cr S og [aE+1]) (cr B og [aE+1]) (λid=>if id=aE then β id else none) og aA [.arr false s e (pre++x::post) none] args (λv p n=>some (v,p,n)) (v,[none],cf) Ol
   ⟨λb ag=>ag.imp (dy.1 b) (λh=>h),dy.2.mono λb ag=>.inl ag⟩ (λid y aN=>bM) jN (by show(p aA [.arr false s e (pre++x::post) none]).run (λq=>some (q.1,q.2.1,q.2.2))=_;rw[D',aa];rfl)
  refine Goes.mono bu λe' w'⟨u,da,c1,awp,S',bD,dO,he,xr,cI⟩=>?_;simp only[ej,gU]at xr;obtain⟨rfl,rfl,rfl⟩:=xr;refine⟨u,_,_,_,S',bD,dO,he,ai,⟨⟨cI.kept.os,cI.kept.tape,cI.kept.output,cI.kept.size,λb ag=>cI.kept.block b (.inl ag)⟩,λb ag=>cI.sub b (.inl ag),λb ag=>?_,cI.val,λj r aP=>?_,λj r aP=>(cI.cf j r aP).aqw λb ag=>.inl ag,cI.inj,cI.lt,cI.one,cI.dF,λid y hid aN=>?_⟩⟩
  .rcases cI.sin b ag with(ag|⟨i,rX,ag⟩)|ag
   .exact .inl ag
   .rw[oM]at rX;subst rX;exact .inr (rf b ag)
   .exact .inr λao=>ag (.inl ao)
  .rcases j with _|_|j<;>simp at aP
  .have:=cI.kH id y hid aN;change(if id=aE then β id else none)=some y at this;split at this
   .exact this
   .cases this
end Go.Ev
namespace Go.Proofs.YtijdnecnjenleaaGreatDoor
open IntKind
open Go.Ev
open Tryz
noncomputable def aqC:Env:={pure:=[],cut:=[69,326,388,389]}
def mB{l h:Int}{m:Nat}(a7:0<=l)(af:l<=h)(ao:h<=m):slb l h m=true:=by simp[slb,a7,af,ao]
def aM.aqD{P:Program}{aq:Env}{c:List Nat}(h:aM P aq):aM P {aq with cut:=c}:=⟨h.pure,h.xI,h.opens,h.nat,h.iq⟩
def aqE:aM prog aqC:=aM.aqD (aq:={pure:=[]}) bV
def KZ:List AV->List Row->a6 hf
 |[.own p,.int .i64 i,.int .i64 j],[.arr false (.agg [.int .i64,.str,.slice (.agg [.str,.int .i64]),.str,.slice (.agg [.str,.str]),.slice (.int .u8),.int .i64,.int .i64,.int .i64,.slice (.agg [.str,.int .i64,.int .i64,.bool])]) 89 es _]=>.bt (Nat.beq p aE&&decide (0<=i/\j=i+1/\i<es.length/\es.length<=1000000)) (.leaf (.own bY,[none],[.arr false db 89 (es.take i.toNat++es.drop (i.toNat+1)) none]))
 |_,_=>.no
def aqF:fH prog 47 (cz KZ)/\hA (cz KZ):=by
 refine⟨Jp (H:=[]) aqE Tryz.func47 aG λaj aA rows k r h=>?_,kQ _⟩;change(KZ aA rows).run _=some r at h;unfold KZ at h;split at h
 .rename_i p i j es dm;obtain⟨aa,ai⟩:=bz h;simp only[ba]at aa;obtain⟨b2,bX⟩:=aa;obtain⟨bX,rfl,c3,mu⟩:=bH bX;obtain rfl:=cH b2;refine⟨bb,λrows' gA=>?_⟩;obtain⟨sp,rfl⟩:∃sp,rows'=[.arr false db 89 es (some sp)]:=by
    match rows',gA with
    |[r1],⟨⟨sp,af,_⟩,_⟩=>exact⟨sp,by rw[af]⟩
  obtain⟨n,rfl⟩:∃n:Nat,i=n:=⟨i.toNat,al⟩;refine bn (b:=have aF:=(Sh.agg [Sh.int i64,Sh.str,(Sh.agg [Sh.str,Sh.int i64]).slice,Sh.str,(Sh.agg [Sh.str,Sh.str]).slice,(Sh.int u8).slice,Sh.int i64,Sh.int i64,Sh.int i64,(Sh.agg [Sh.str,Sh.int i64,Sh.int i64,Sh.bool]).slice]);have aI:=((n:Int)+(1:Int));have aO:=(es.length:Int);have bd:=(aO.toNat-aI.toNat);have av:=(List.take (n-Int.toNat (0:Int)) es++List.take bd (List.drop aI.toNat es));have az:=(List.take bd (List.drop aI.toNat es));have aZ:=(av.length:Int);have bk:=(n-Int.toNat (0:Int)+az.length);bif slb (n:Int) aI es.length&&(decide ((n:Int)+(1:Int)<=aO)&&decide (aO<=aO))then bif(n:Int)==(n:Int)+(1:Int)then k (.own 1125899906842624) [some (.arr false aF 89 es none)] []else bif slb (0:Int) (n:Int) es.length then bif slb aI aO es.length then bif decide (aI.toNat+bd<=es.length)then bif decide (n-Int.toNat (0:Int)+az.length<=es.length)then bif slb aZ aO (av.length+((λl=>List.drop bk es++l) sp).length)then bif decide (av.length<=aZ.toNat)&&decide (aZ.toNat+(aO.toNat-aZ.toNat)<=av.length+((λl=>List.drop bk es++l) sp).length)then k (.own 2251799813685248) [none] [.arr false aF 89 av none]else none else none else none else none else none else none else none) ?_;conv=>zeta
  have i1:((n:Int)+1).toNat=n+1:=al;have i2:Int.toNat 0=0:=rfl;have i3:((es.length:Nat):Int).toNat=es.length:=bK _;have t1:List.take (es.length-(n+1)) (es.drop (n+1))=es.drop (n+1):=nn S4;simp only[i1,i2,i3,bK,Dz,t1]at ai⊢;have b1:(es.drop (n+1)).length=es.length-(n+1):=mJ;have cS:(es.take n).length=n:=yQ;have fq:(es.take n++es.drop (n+1)).length=es.length-1:=by rw[fu,b1,cS];omega
  have tU:(es.drop (n+(es.drop (n+1)).length)++sp).length=1+sp.length:=by rw[fu,mJ,b1];omega
  rw[fq,tU,b1];refine aT (a' (aV (mB al al al) (aV (aS al) (aS (ui _))))) ?_;refine aT (fP (GD.2 al)) ?_;refine aT (a' (mB al al al)) ?_;refine aT (a' (mB al al al)) ?_;refine aT (a' (aS al)) ?_;refine aT (a' (aS al)) ?_;refine aT (a' (mB al al al)) ?_;refine aT (a' (aV (aS (dc _)) (aS al))) ?_;exact ai
 .cases h
def F1:List AV->List Row->a6 hf
 |[.own p,.int .i64 i,.int .i64 j],[.cj false (.agg [.int .i64,.str,.slice (.agg [.str,.int .i64]),.str,.slice (.agg [.str,.str]),.slice (.int .u8),.int .i64,.int .i64,.int .i64,.slice (.agg [.str,.int .i64,.int .i64,.bool])]) 89 pre [.int .i64 x,.str f,.ab (.agg [.str,.int .i64]) ae,.str d,.ab (.agg [.str,.str]) aC,.ab (.int .u8) bs,.int .i64 b0,.int .i64 bS,.int .i64 n3,.own 1125899906842625] post,.arr false (.agg [.str,.int .i64,.int .i64,.bool]) 110 _ _]=>.bt (Nat.beq p aE&&decide (i=pre.length/\j=i+1/\pre.length+(post.length+1)<=1000000)) (.leaf (.own bY,[none,none],[.arr false db 89 (pre++post) none]))
 |_,_=>.no
theorem aqG:fH prog 47 (cz F1)/\hA (cz F1):=by
 refine fH.aqx aqF.1 λaA rows=>?_;unfold F1;split
 .rename_i p i j pre x f ae d aC bs b0 bS n3 post ws dm;by_cases au:Nat.beq p aE=true
  .obtain rfl:=cH au;refine .inr (.inr ⟨db,fW,89,110,pre,[.int .i64 x,.str f,.ab eR ae,.str d,.ab fb aC,.ab (.int .u8) bs,.int .i64 b0,.int .i64 bS,.int .i64 n3],post,ws,.agg [.int .i64 x,.str f,.ab eR ae,.str d,.ab fb aC,.ab (.int .u8) bs,.int .i64 b0,.int .i64 bS,.int .i64 n3,.ab fW ws],dm,_,.own bY,[.arr false db 89 (pre++post) none],rfl,rfl,rfl,rfl,?_,rfl,λaa=>?_⟩)
   .simp[Rd]
   .rw[ba]at aa;obtain⟨b2,bX⟩:=aa;obtain⟨rfl,rfl,c3⟩:=bH bX;have ay:(pre++ .agg [.int .i64 x,.str f,.ab eR ae,.str d,.ab fb aC,.ab (.int .u8) bs,.int .i64 b0,.int .i64 bS,.int .i64 n3,.ab fW ws]::post).length=pre.length+(post.length+1):=bb;have af:(Nat.beq aE aE&&decide ((0:Int)<=pre.length/\(pre.length:Int)+1=(pre.length:Int)+1/\(pre.length:Int)<((pre++ .agg [.int .i64 x,.str f,.ab eR ae,.str d,.ab fb aC,.ab (.int .u8) bs,.int .i64 b0,.int .i64 bS,.int .i64 n3,.ab fW ws]::post).length:Nat)/\(pre++ .agg [.int .i64 x,.str f,.ab eR ae,.str d,.ab fb aC,.ab (.int .u8) bs,.int .i64 b0,.int .i64 bS,.int .i64 n3,.ab fW ws]::post).length<=1000000))=true:=aV (b9 _) (aS ⟨al,rfl,by rw[ay];omega,by rw[ay];exact c3⟩);have ao:(Nat.beq aE aE&&decide ((pre.length:Int)=(pre.length:Nat)/\(pre.length:Int)+1=(pre.length:Int)+1/\pre.length+(post.length+1)<=1000000))=true:=aV (b9 _) (aS ⟨rfl,rfl,c3⟩);have a1:((pre++ .agg [.int .i64 x,.str f,.ab eR ae,.str d,.ab fb aC,.ab (.int .u8) bs,.int .i64 b0,.int .i64 bS,.int .i64 n3,.ab fW ws]::post).take ((pre.length:Nat):Int).toNat++(pre++ .agg [.int .i64 x,.str f,.ab eR ae,.str d,.ab fb aC,.ab (.int .u8) bs,.int .i64 b0,.int .i64 bS,.int .i64 n3,.ab fW ws]::post).drop (((pre.length:Nat):Int).toNat+1))=pre++post:=p7;refine aT (b:=a6.bt (Nat.beq aE aE&&decide ((0:Int)<=pre.length/\(pre.length:Int)+1=(pre.length:Int)+1/\(pre.length:Int)<((pre++ .agg [.I x,.str f,.ab eR ae,.str d,.ab fb aC,.ab (.int .u8) bs,.I b0,.I bS,.I n3,.ab fW ws]::post).length:Nat)/\(pre++ .agg [.I x,.str f,.ab eR ae,.str d,.ab fb aC,.ab (.int .u8) bs,.I b0,.I bS,.I n3,.ab fW ws]::post).length<=1000000)) (a6.leaf (α:=hf) (.own bY,[none],[.arr false db 89 ((pre++ .agg [.I x,.str f,.ab eR ae,.str d,.ab fb aC,.ab (.int .u8) bs,.I b0,.I bS,.I n3,.ab fW ws]::post).take ((pre.length:Nat):Int).toNat++(pre++ .agg [.I x,.str f,.ab eR ae,.str d,.ab fb aC,.ab (.int .u8) bs,.I b0,.I bS,.I n3,.ab fW ws]::post).drop (((pre.length:Nat):Int).toNat+1)) none]))) rfl ?_;rw[af,ao,a1]
  grind
 .exact .inl rfl
noncomputable def aqH:Env:={pure:=[(77,aK FZ)],hole:=true}
def aqI:aM prog aqH:=aM.flags (aq:={pure:=[(77,aK FZ)]}) (aM.br bV aqp)
def tX(t:Int):Int:=if 1000000<t+1 then 1000000 else t+1
def AA(x t u y:Int):Int:=if u>Az x (tX t) y then u else Az x (tX t) y
def C7:List AV->List Row->a6 hf
 |[.eptr p j 0,.int .i64 y],[.cj false (.agg [.int .i64,.str,.slice (.agg [.str,.int .i64]),.str,.slice (.agg [.str,.str]),.slice (.int .u8),.int .i64,.int .i64,.int .i64,.slice (.agg [.str,.int .i64,.int .i64,.bool])]) 89 pre [.int .i64 x,.str f,.ab (.agg [.str,.int .i64]) ae,.str d,.ab (.agg [.str,.str]) aC,.ab (.int .u8) bs,.int .i64 b0,.int .i64 bS,.int .i64 n3,.own q] post,.arr false (.agg [.str,.int .i64,.int .i64,.bool]) 110 ws none]=>.bt (Nat.beq p aE&&(Nat.beq q (aE+1)&&(Nat.beq j pre.length&&(eG b0&&(eG y&&decide (0<=bS/\bS<=1000000/\b0<=y)))))) (.leaf (.bool (nS b0 y),[some (.cj false db 89 pre [.int .i64 x,.str f,.ab eR ae,.str d,.ab fb aC,.ab (.int .u8) bs,.int .i64 b0,.int .i64 (tX bS),.int .i64 (bif nS b0 y then AA b0 bS n3 y else n3),.own (aE+1)] post),some (.arr false fW 110 ws none)],[]))
 |_,_=>.no
def aqJ:fH prog 45 (cz C7)/\hA (cz C7):=by
 refine⟨Jp (H:=[]) aqI Tryz.func45 aG λaj aA rows k r h=>?_,kQ _⟩;change(C7 aA rows).run _=some r at h;unfold C7 at h;split at h
 .rename_i p j y pre x f ae d aC bs b0 bS n3 q post ws;obtain⟨aa,ai⟩:=bz h;simp only[ba]at aa;obtain⟨b2,bX,c3,mu,c5,uo⟩:=aa;obtain⟨uo,Hu,Re⟩:=bH uo;obtain rfl:=cH b2;obtain rfl:=cH bX;obtain rfl:=cH c3;refine⟨bb,λrows' gA=>?_⟩;obtain⟨sp,rfl⟩:∃sp,rows'=[.cj false db 89 pre [.int .i64 x,.str f,.ab eR ae,.str d,.ab fb aC,.ab (.int .u8) bs,.int .i64 b0,.int .i64 bS,.int .i64 n3,.own (aE+1)] post,.arr false fW 110 ws (some sp)]:=by
    match rows',gA with
    |[r1,cQ],⟨af,⟨sp,ao,_⟩,_⟩=>exact⟨sp,by rw[af,ao]⟩
  refine bn (b:=bif decide (pre.length=pre.length)then bif decide (pre.length=pre.length)then bif decide (pre.length=pre.length)then bif decide (pre.length=pre.length)then bif eG b0&&(eG y&&decide (((1:Int)<=if(1000000:Int)<i64.wrap (bS+(1:Int))then(1000000:Int)else i64.wrap (bS+(1:Int)))/\(if(1000000:Int)<i64.wrap (bS+(1:Int))then(1000000:Int)else i64.wrap (bS+(1:Int)))<=(1000000:Int)/\b0<=y))then bif nS b0 y then bif decide (pre.length=pre.length)then bif decide (pre.length=pre.length)then k (.bool true) [some (.cj false (.agg [.int .i64,.str,.slice (.agg [.str,.int .i64]),.str,.slice (.agg [.str,.str]),.slice (.int .u8),.int .i64,.int .i64,.int .i64,.slice (.agg [.str,.int .i64,.int .i64,.bool])]) 89 pre [.I x,.str f,.ab (.agg [.str,.int .i64]) ae,.str d,.ab (.agg [.str,.str]) aC,.ab (.int .u8) bs,.I b0,.I (if(1000000:Int)<i64.wrap (bS+(1:Int))then(1000000:Int)else i64.wrap (bS+(1:Int))),.I (if n3>Az b0 (if(1000000:Int)<i64.wrap (bS+(1:Int))then(1000000:Int)else i64.wrap (bS+(1:Int))) y then n3 else Az b0 (if(1000000:Int)<i64.wrap (bS+(1:Int))then(1000000:Int)else i64.wrap (bS+(1:Int))) y),.own 1125899906842625] post),some (.arr false (.agg [.str,.int .i64,.int .i64,.bool]) 110 ws none)] []else none else none else k (.bool false) [some (.cj false (.agg [.int .i64,.str,.slice (.agg [.str,.int .i64]),.str,.slice (.agg [.str,.str]),.slice (.int .u8),.int .i64,.int .i64,.int .i64,.slice (.agg [.str,.int .i64,.int .i64,.bool])]) 89 pre [.I x,.str f,.ab (.agg [.str,.int .i64]) ae,.str d,.ab (.agg [.str,.str]) aC,.ab (.int .u8) bs,.I b0,.I (if(1000000:Int)<i64.wrap (bS+(1:Int))then(1000000:Int)else i64.wrap (bS+(1:Int))),.I n3,.own 1125899906842625] post),some (.arr false (.agg [.str,.int .i64,.int .i64,.bool]) 110 ws none)] []else none else none else none else none else none) ?_;have w1:i64.wrap (bS+1)=bS+1:=lT _ al al;have d0:decide (pre.length=pre.length)=true:=aS rfl;have bJ:1<=tX bS/\tX bS<=1000000:=by unfold tX;split<;>omega
  unfold tX at bJ;rw[w1];refine aT (a' d0) (aT (a' d0) (aT (a' d0) (aT (a' d0) (aT (a' (aV mu (aV c5 (aS ⟨bJ.1,bJ.2,Re⟩)))) ?_))));rw[<-ai];cases nS b0 y
  .rfl
  .refine aT (a' rfl) (aT (a' d0) (aT (a' d0) ?_));rfl
 .cases h
def stM(st:List (List UInt8×List AV)):List AV:=st.map λp=>.tup [.str p.1,.ab gm p.2]
def kX(st:List (List UInt8×List AV)):List AV:=st.map λp=>.str p.1
noncomputable def abb(cR:List (List UInt8×List AV))(p:Nat)(c4:Int)(de:List UInt8)(cE:List AV)(dH:List UInt8)(aD:List AV)(cY:List AV)(r1:Int)(cQ:Int)(c6:Int)(wr:List AV)(rec:List AV)(dn:Int)(c2:Int)(ms:List AV)(us:List AV)(out:List AV)(dY:Int)(fc:List UInt8)(fe:List AV)(ff:List UInt8)(au:List AV)(eK:List AV)(cF:Int)(d':Int)(fg:Int)(wp:List AV)(fh:Row):a6 hf:=match fh with
 |.arr false (.agg [.int .i64,.str,.slice (.agg [.str,.int .i64]),.str,.slice (.agg [.str,.str]),.slice (.int .u8),.int .i64,.int .i64,.int .i64,.slice (.agg [.str,.int .i64,.int .i64,.bool])]) 89 dk none=>.bt ((p==aE&&kS mG rec)&&((decide (out.length+4<=1000000/\wr.length<=4/\cR.length<=4)&&fX (ms,us))&&(wr.all eh&&AB (iy 0 wr []) cR))) (.leaf (.tup [],[some (.box false rec),some (.box false [.int .i64 dn,.int .i64 c2]),some (.box false [.own 1125899906842627]),some (.box false [.ct (sN dY c4 us (stM cR) (kX cR) ms out)]),some (.box false [.own 1125899906842629]),some (.box false [.ct us]),some (.box false [.own bY]),none,some (.box false [.int .i64 dY,.str fc,.ab (.agg [.str,.int .i64]) fe,.str ff,.ab (.agg [.str,.str]) au,.ab (.int .u8) eK,.int .i64 cF,.int .i64 d',.int .i64 fg,.ab (.agg [.str,.int .i64,.int .i64,.bool]) wp]),some (.arr false (.agg [.int .i64,.str,.slice (.agg [.str,.int .i64]),.str,.slice (.agg [.str,.str]),.slice (.int .u8),.int .i64,.int .i64,.int .i64,.slice (.agg [.str,.int .i64,.int .i64,.bool])]) 89 dk none)],[.arr false rF 49 (sO dY c4 us (stM cR) (kX cR) ms out) none]))
 |_=>.no
noncomputable def abc(cR:List (List UInt8×List AV))(p:Nat)(c4:Int)(de:List UInt8)(cE:List AV)(dH:List UInt8)(aD:List AV)(cY:List AV)(r1:Int)(cQ:Int)(c6:Int)(wr:List AV)(rec:List AV)(dn:Int)(c2:Int)(ms:List AV)(us:List AV)(out:List AV)(gd:Row)(fh:Row):a6 hf:=match gd with
 |.box false [.int .i64 dY,.str fc,.ab (.agg [.str,.int .i64]) fe,.str ff,.ab (.agg [.str,.str]) au,.ab (.int .u8) eK,.int .i64 cF,.int .i64 d',.int .i64 fg,.ab (.agg [.str,.int .i64,.int .i64,.bool]) wp]=>abb cR p c4 de cE dH aD cY r1 cQ c6 wr rec dn c2 ms us out dY fc fe ff au eK cF d' fg wp fh
 |_=>.no
noncomputable def abd(cR:List (List UInt8×List AV))(p:Nat)(c4:Int)(de:List UInt8)(cE:List AV)(dH:List UInt8)(aD:List AV)(cY:List AV)(r1:Int)(cQ:Int)(c6:Int)(wr:List AV)(rec:List AV)(dn:Int)(c2:Int)(ms:List AV)(us:List AV)(e3:Row)(hD:Row)(gd:Row)(fh:Row):a6 hf:=match e3,hD with
 |.box false [.own 1125899906842631],.arr false (.agg [.int .i64,.str,.slice (.int .i64)]) 49 out none=>abc cR p c4 de cE dH aD cY r1 cQ c6 wr rec dn c2 ms us out gd fh
 |_,_=>.no
noncomputable def abe(cR:List (List UInt8×List AV))(p:Nat)(c4:Int)(de:List UInt8)(cE:List AV)(dH:List UInt8)(aD:List AV)(cY:List AV)(r1:Int)(cQ:Int)(c6:Int)(wr:List AV)(rec:List AV)(dn:Int)(c2:Int)(hC:Row)(gP:Row)(gb:Row)(e3:Row)(hD:Row)(gd:Row)(fh:Row):a6 hf:=match hC,gP,gb with
 |.box false [.ct ms],.box false [.own 1125899906842629],.box false [.ct us]=>abd cR p c4 de cE dH aD cY r1 cQ c6 wr rec dn c2 ms us e3 hD gd fh
 |_,_,_=>.no
noncomputable def abf(cR:List (List UInt8×List AV))(p:Nat)(c4:Int)(de:List UInt8)(cE:List AV)(dH:List UInt8)(aD:List AV)(cY:List AV)(r1:Int)(cQ:Int)(c6:Int)(wr:List AV)(fL:Row)(iI:Row)(h9:Row)(hC:Row)(gP:Row)(gb:Row)(e3:Row)(hD:Row)(gd:Row)(fh:Row):a6 hf:=match fL,iI,h9 with
 |.box false rec,.box false [.int .i64 dn,.int .i64 c2],.box false [.own 1125899906842627]=>abe cR p c4 de cE dH aD cY r1 cQ c6 wr rec dn c2 hC gP gb e3 hD gd fh
 |_,_,_=>.no
noncomputable def abg(cR:List (List UInt8×List AV))(p:Nat)(c4:Int)(de:List UInt8)(cE:List AV)(dH:List UInt8)(aD:List AV)(cY:List AV)(r1:Int)(cQ:Int)(c6:Int)(wr:List AV)(rs:List Row):a6 hf:=match rs with
 |[fL,iI,h9,hC,gP,gb,e3,hD,gd,fh]=>abf cR p c4 de cE dH aD cY r1 cQ c6 wr fL iI h9 hC gP gb e3 hD gd fh
 |_=>.no
noncomputable def abh(cR:List (List UInt8×List AV))(p:Nat)(v1:AV)(rs:List Row):a6 hf:=match v1 with
 |.ref [.int .i64 c4,.str de,.ab (.agg [.str,.int .i64]) cE,.str dH,.ab (.agg [.str,.str]) aD,.ab (.int .u8) cY,.int .i64 r1,.int .i64 cQ,.int .i64 c6,.ab (.agg [.str,.int .i64,.int .i64,.bool]) wr]=>abg cR p c4 de cE dH aD cY r1 cQ c6 wr rs
 |_=>.no
noncomputable def yh(cR:List (List UInt8×List AV))(vs:List AV)(rs:List Row):a6 hf:=match vs with
 |[.own p,v1]=>abh cR p v1 rs
 |_=>.no
def aqK(cR:List (List UInt8×List AV)){aj:Type}{aA:List AV}{rows:List Row}{k:hf->Option aj}{r:aj}(h:(yh cR aA rows).run k=some r):∃c4 de cE dH aD cY r1 cQ c6 wr rec dn c2 ms us out dY fc fe ff au eK cF d' fg wp dk,aA=[.own aE,.ref [.int .i64 c4,.str de,.ab (.agg [.str,.int .i64]) cE,.str dH,.ab (.agg [.str,.str]) aD,.ab (.int .u8) cY,.int .i64 r1,.int .i64 cQ,.int .i64 c6,.ab (.agg [.str,.int .i64,.int .i64,.bool]) wr]]/\rows=[.box false rec,.box false [.int .i64 dn,.int .i64 c2],.box false [.own 1125899906842627],.box false [.ct ms],.box false [.own 1125899906842629],.box false [.ct us],.box false [.own 1125899906842631],.arr false (.agg [.int .i64,.str,.slice (.int .i64)]) 49 out none,.box false [.int .i64 dY,.str fc,.ab (.agg [.str,.int .i64]) fe,.str ff,.ab (.agg [.str,.str]) au,.ab (.int .u8) eK,.int .i64 cF,.int .i64 d',.int .i64 fg,.ab (.agg [.str,.int .i64,.int .i64,.bool]) wp],.arr false (.agg [.int .i64,.str,.slice (.agg [.str,.int .i64]),.str,.slice (.agg [.str,.str]),.slice (.int .u8),.int .i64,.int .i64,.int .i64,.slice (.agg [.str,.int .i64,.int .i64,.bool])]) 89 dk none]/\kS mG rec=true/\(out.length+4<=1000000/\wr.length<=4/\cR.length<=4)/\fX (ms,us)=true/\wr.all eh=true/\iy 0 wr []=cR/\k (.tup [],[some (.box false rec),some (.box false [.int .i64 dn,.int .i64 c2]),some (.box false [.own 1125899906842627]),some (.box false [.ct (sN dY c4 us (stM cR) (kX cR) ms out)]),some (.box false [.own 1125899906842629]),some (.box false [.ct us]),some (.box false [.own bY]),none,some (.box false [.int .i64 dY,.str fc,.ab (.agg [.str,.int .i64]) fe,.str ff,.ab (.agg [.str,.str]) au,.ab (.int .u8) eK,.int .i64 cF,.int .i64 d',.int .i64 fg,.ab (.agg [.str,.int .i64,.int .i64,.bool]) wp]),some (.arr false (.agg [.int .i64,.str,.slice (.agg [.str,.int .i64]),.str,.slice (.agg [.str,.str]),.slice (.int .u8),.int .i64,.int .i64,.int .i64,.slice (.agg [.str,.int .i64,.int .i64,.bool])]) 89 dk none)],[.arr false rF 49 (sO dY c4 us (stM cR) (kX cR) ms out) none])=some r:=by
 unfold yh at h;split at h;rotate_left
 .cases h
 rename_i p v1;unfold abh at h;split at h;rotate_left
 .cases h
 rename_i c4 de cE dH aD cY r1 cQ c6 wr;unfold abg at h;split at h;rotate_left
 .cases h
 rename_i fL iI h9 hC gP gb e3 hD gd fh;unfold abf at h;split at h;rotate_left
 .cases h
 rename_i rec dn c2;unfold abe at h;split at h;rotate_left
 .cases h
 rename_i ms us;unfold abd at h;split at h;rotate_left
 .cases h
 rename_i out;unfold abc at h;split at h;rotate_left
 .cases h
 rename_i dY fc fe ff au eK cF d' fg wp;unfold abb at h;split at h;rotate_left
 .cases h
 rename_i dk;obtain⟨mH,ai⟩:=u5 h;simp only[ba]at mH;obtain⟨⟨AD,u6⟩,⟨wB,u7⟩,jM,nN⟩:=mH;obtain rfl:p=aE:=by simpa using AD
 exact⟨_,_,_,_,_,_,_,_,_,_,_,_,_,_,_,_,_,_,_,_,_,_,_,_,_,_,_,rfl,rfl,u6,bH wB,u7,jM,abi nN,ai⟩
def abj{a b:List (List UInt8×List AV)}(h:a=b):AB a b=true:=h▸aqL
def abk:∀st:List (List UInt8×List AV),F2 (stM st)=true
 |[]=>rfl
 |p::st=>abk st
def abl:∀(st:List (List UInt8×List AV))(p:List UInt8×List AV),p∈st->dq (.str p.1) (stM st)=true
 |q::st,p,h=>by
  show(p.1==q.1||dq (.str p.1) (stM st))=true;rcases gv.1 h with rfl|h
  .rw[ha,DA]
  .rw[abl st p h,Bool.or_true]
def aqM(st:List (List UInt8×List AV)):((kX st).all λd=>dq (.str (bm d)) (stM st))=true:=by rw[ec];intro d aX;obtain⟨p,au,rfl⟩:=uj.1 aX;exact abl st p au
def abm(st:List (List UInt8×List AV)):(kX st).length=st.length:=g' _
def aqN{aj:Type}(k:AV->List (Option Row)->List Row->Option aj)(c4:Int)(de:List UInt8)(cE:List AV)(dH:List UInt8)(aD:List AV)(cY:List AV)(r1:Int)(cQ:Int)(c6:Int)(wr:List AV)(dn:Int)(c2:Int)(ms:List AV)(us:List AV)(out:List AV)(dY:Int)(fc:List UInt8)(fe:List AV)(ff:List UInt8)(au:List AV)(eK:List AV)(cF:Int)(d':Int)(fg:Int)(wp:List AV)(dk:List AV)(nU:Int)(nV:Int)(nW:Bool)(nX:Nat)(nY:Int)(nZ:List UInt8)(n1:List AV)(n2:List UInt8)(n5:List AV)(n7:List AV)(n8:Int)(n9:Int)(n':Int)(oa:List AV)(ob:Int)(oc:List UInt8)(od:List AV)(oe:List UInt8)(oh:List AV)(oi:List AV)(oj:Int)(om:Int)(oo:Int)(oq:List AV)(ot:Int)(ou:List UInt8)(ov:List AV)(ow:List UInt8)(oy:List AV)(oA:List AV)(oB:Int)(oC:Int)(oD:Int)(oE:List AV):∀cR:List (List UInt8×List AV),cR.length<=4->th Tryz.prog F3 [(3,K0 cR),(12,K1)] [] Tryz.f73 aj [.own aE,.ref [.int .i64 c4,.str de,.ab (.agg [.str,.int .i64]) cE,.str dH,.ab (.agg [.str,.str]) aD,.ab (.int .u8) cY,.int .i64 r1,.int .i64 cQ,.int .i64 c6,.ab (.agg [.str,.int .i64,.int .i64,.bool]) wr]] [.box false (u9 nU nV nW nX nY nZ n1 n2 n5 n7 n8 n9 n' oa ob oc od oe oh oi oj om oo oq ot ou ov ow oy oA oB oC oD oE),.box false [.int .i64 dn,.int .i64 c2],.box false [.own 1125899906842627],.box false [.ct ms],.box false [.own 1125899906842629],.box false [.ct us],.box false [.own 1125899906842631],.arr false (.agg [.int .i64,.str,.slice (.int .i64)]) 49 out none,.box false [.int .i64 dY,.str fc,.ab (.agg [.str,.int .i64]) fe,.str ff,.ab (.agg [.str,.str]) au,.ab (.int .u8) eK,.int .i64 cF,.int .i64 d',.int .i64 fg,.ab (.agg [.str,.int .i64,.int .i64,.bool]) wp],.arr false (.agg [.int .i64,.str,.slice (.agg [.str,.int .i64]),.str,.slice (.agg [.str,.str]),.slice (.int .u8),.int .i64,.int .i64,.int .i64,.slice (.agg [.str,.int .i64,.int .i64,.bool])]) 89 dk none] k=bif aE==aE&&(((3:Nat),(9990:Nat),(9:TypeId)).snd.fst.beq (9990:Nat)&&(((1:Nat)*(64:Nat)+(0:Nat)).beq (64:Nat)&&(Nat.beq (1125899906842627:Nat) (1125899906842627:Nat)&&(Nat.beq (1125899906842629:Nat) (1125899906842629:Nat)&&(Nat.beq (1125899906842631:Nat) (1125899906842631:Nat)&&kS mG (u9 nU nV nW nX nY nZ n1 n2 n5 n7 n8 n9 n' oa ob oc od oe oh oi oj om oo oq ot ou ov ow oy oA oB oC oD oE))))))&&(bl (↑wr.length:Int) (0:Int) wr.length&&(decide (wr.length<=(4:Nat))&&wr.all eh))then bif decide ((0:Int)<=(0:Int))&&AB (iy (0:Nat) (List.drop (0:Nat) wr) []) cR then bif hv ((↑out.length:Int)+(((kX cR).length:Int)-(0:Int))<=(1000000:Int)/\(kX cR).length<=(4:Nat))&&(aE==aE&&(Nat.beq (9990:Nat) (9990:Nat)&&(Nat.beq (64:Nat) (64:Nat)&&(Nat.beq (1125899906842627:Nat) (1125899906842627:Nat)&&(Nat.beq (1125899906842629:Nat) (1125899906842629:Nat)&&((9985:Nat).beq (9985:Nat)&&kS mG (u9 nU nV nW nX nY nZ n1 n2 n5 n7 n8 n9 n' oa ob oc od oe oh oi oj om oo oq ot ou ov ow oy oA oB oC oD oE))))))&&(bl ((kX cR).length:Int) (0:Int) (kX cR).length&&(fX (ms,us)&&(F2 (stM cR)&&(kX cR).all λd=>dq (AV.str (bm d)) (stM cR)))))then k (AV.tup []) [some (Row.box false (u9 nU nV nW nX nY nZ n1 n2 n5 n7 n8 n9 n' oa ob oc od oe oh oi oj om oo oq ot ou ov ow oy oA oB oC oD oE)),some (Row.box false [AV.int .i64 dn,AV.int .i64 c2]),some (Row.box false [AV.own 1125899906842627]),some (Row.box false [AV.ct (sN dY c4 us (stM cR) (kX cR) ms out)]),some (Row.box false [AV.own 1125899906842629]),some (Row.box false [AV.ct us]),some (Row.box false [AV.own 2251799813685248]),none,some (Row.box false [AV.int .i64 dY,AV.str fc,AV.ab (Sh.agg [Sh.str,Sh.int i64]) fe,AV.str ff,AV.ab (Sh.agg [Sh.str,Sh.str]) au,AV.ab (Sh.int u8) eK,AV.int .i64 cF,AV.int .i64 d',AV.int .i64 fg,AV.ab (Sh.agg [Sh.str,Sh.int i64,Sh.int i64,Sh.bool]) wp]),some (Row.arr false (Sh.agg [Sh.int i64,Sh.str,(Sh.agg [Sh.str,Sh.int i64]).slice,Sh.str,(Sh.agg [Sh.str,Sh.str]).slice,(Sh.int u8).slice,Sh.int i64,Sh.int i64,Sh.int i64,(Sh.agg [Sh.str,Sh.int i64,Sh.int i64,Sh.bool]).slice]) (89:Nat) dk none)] [Row.arr false (Sh.agg [Sh.int i64,Sh.str,(Sh.int i64).slice]) (49:Nat) (sO dY c4 us (stM cR) (kX cR) ms out) none]else none else none else none
 |[],_=>aG
 |[(gM,b1)],_=>aG
 |[(gM,b1),(kW,cS)],_=>aG
 |[(gM,b1),(kW,cS),(tW,fq)],_=>aG
 |[(gM,b1),(kW,cS),(tW,fq),(uI,tU)],_=>aG
 |_::_::_::_::_::_,h=>absurd h bb
def aqO(cR:List (List UInt8×List AV)):fH Tryz.prog 73 (cz (yh cR))/\hA (cz (yh cR)):=by
 refine⟨AE (K:=[(3,K0 cR),(12,K1)]) (bs:=[Rf,abn]) (H:=[]) Rh Tryz.func73 aG (λb ag=>?_) λaj aA rows k r h=>?_,kQ (yh cR)⟩
 .simp only[gv,mh,mi]at ag;rcases ag with rfl|rfl
  .exact⟨K0 cR,aG,aqP cR _⟩
  .exact⟨K1,aG,aqQ _⟩
 obtain⟨c4,de,cE,dH,aD,cY,r1,cQ,c6,wr,rec,dn,c2,ms,us,out,dY,fc,fe,ff,au,eK,cF,d',fg,wp,dk,rfl,rfl,u6,⟨awq,yi,F4⟩,u7,jM,nN,ai⟩:=aqK cR h;clear h;have oR:=u6;obtain⟨nU,nV,nW,nX,nY,nZ,n1,n2,n5,n7,n8,n9,n',oa,ob,oc,od,oe,oh,oi,oj,om,oo,oq,ot,ou,ov,ow,oy,oA,oB,oC,oD,oE,rfl⟩:=Ri u6;have awr:(kX cR).length=cR.length:=abm cR;refine⟨bb,aT (aqN k _ _ _ _ _ _ _ _ _ _ _ _ _ _ _ _ _ _ _ _ _ _ _ _ _ _ _ _ _ _ _ _ _ _ _ _ _ _ _ _ _ _ _ _ _ _ _ _ _ _ _ _ _ _ _ _ _ _ _ _ cR F4) ?_⟩
 .refine aT (a' (aV (aV (ha aE) (aV (b9 9990) (aV (b9 64) (aV (b9 _) (aV (b9 _) (aV (b9 _) oR)))))) (aV (e1 (aS al)) (aV (aS yi) jM)))) ?_;refine aT (a' (aV (aS (ui 0)) (abj nN))) ?_;refine aT (a' (aV (mN ⟨al,al⟩) (aV (aV (ha aE) (aV (b9 9990) (aV (b9 64) (aV (b9 _) (aV (b9 _) (aV (b9 _) oR)))))) (aV (e1 (aS al)) (aV u7 (aV (abk cR) (aqM cR))))))) ?_;exact ai
def K2(vs:List AV):List (List UInt8×List AV):=match vs with
 |[_,.ref [_,_,_,_,_,_,_,_,_,.ab _ wr]]=>iy 0 wr []
 |_=>[]
noncomputable def AF(vs:List AV)(rs:List Row):a6 hf:=yh (K2 vs) vs rs
def aqR{aj:Type}(aA:List AV)(rows:List Row)(k:AV->List (Option Row)->List Row->Option aj)(r:aj)(h:cz AF aj aA rows k=some r):cz (yh (K2 aA)) aj aA rows k=some r:=by unfold cz at h⊢;unfold AF at h;exact h
def aqS:fH Tryz.prog 73 (cz AF)/\hA (cz AF):=⟨fH.Jt λaA rows=>⟨cz (yh (K2 aA)),(aqO (K2 aA)).1,λ_ k r h=>aqR aA rows k r h⟩,kQ AF⟩
def abo(d:List UInt8)(j:Int):∀st:List (List UInt8×List AV),(ins d j st).length<=st.length+1
 |[]=>dc _
 |(k,l)::st=>by
  show(bif d==k then(k,l++[.int .i64 j])::st else(k,l)::ins d j st).length<=_;cases d==k
  .simp only[cU,e5];have:=abo d j st;omega
  .simp only[b4,e5];omega
def aqT(j:Nat)(st:List (List UInt8×List AV))(w:AV):(tY j st w).length<=st.length+1:=by
 unfold tY;cases dC w==0
 .simp only[cU];omega
 .exact abo _ _ _
def abp:∀(ws:List AV)(j:Nat)(st:List (List UInt8×List AV)),(iy j ws st).length<=st.length+ws.length
 |[],_,_=>dc _
 |w::ws,j,st=>by have af:=abp ws (j+1) (tY j st w);have ao:=aqT j st w;show(iy (j+1) ws (tY j st w)).length<=_;simp only[e5];omega
def aqU(x y:Int)(us lm:List AV)(st:List AV×List AV)(d:AV):(nf x y us lm st d).2.length<=st.2.length+1:=by
 unfold nf;cases u1 x (bm d) st.1 us
 .simp only[cU];omega
 .simp only[b4,fu,qR];omega
def abq(x y:Int)(us lm:List AV):∀(ds:List AV)(st:List AV×List AV),(ds.foldl (nf x y us lm) st).2.length<=st.2.length+ds.length
 |[],_=>dc _
 |d::ds,st=>by have af:=abq x y us lm ds (nf x y us lm st d);have ao:=aqU x y us lm st d;simp only[jw,e5];omega
def aqV(x y:Int)(us lm:List AV)(st:List AV×List AV)(d:AV)(h:fX (st.1,us)=true):fX ((nf x y us lm st d).1,us)=true:=by
 unfold nf;cases u1 x (bm d) st.1 us
 .exact h
 .exact abr h _ _
def abt(x y:Int)(us lm:List AV):∀(ds:List AV)(st:List AV×List AV),fX (st.1,us)=true->fX ((ds.foldl (nf x y us lm) st).1,us)=true
 |[],_,h=>h
 |d::ds,st,h=>abt x y us lm ds _ (aqV x y us lm st d h)
def pW(e:AV):List (List UInt8×List AV):=iy 0 (bL e) []
def C8(us:List AV)(st:List AV×List AV)(e:AV):List AV×List AV:=(kX (pW e)).foldl (nf (aW e) (aW e) us (stM (pW e))) st
noncomputable def abu:Env:={pure:=[(26,aK Am),(27,aK rv),(28,aK uY),(29,aK pQ),(38,aK CZ),(39,aK o9)],opens:=[(30,cz CV),(31,cz AG),(33,cz CY),(37,cz wv),(73,cz AF)],j4:=[(15,2,5000)]}
def g9:aM Tryz.prog abu:=aM.flags (aq:={pure:=[(26,aK Am),(27,aK rv),(28,aK uY),(29,aK pQ),(38,aK CZ),(39,aK o9)],opens:=[(30,cz CV),(31,cz AG),(33,cz CY),(37,cz wv),(73,cz AF)]}) (aM.br (aM.br (aM.br (aM.br (aM.br (aM.br (aM.iS (aM.iS (aM.iS (aM.iS (aM.iS bV aqS) Z1) aof) Rj) an1) rz) aog) ry) CL) uU) QD)
noncomputable def Rk:Code:=((Tryz.f9.body.map c7).getD []).headD .skip
def sP(e:AV):Bool:=decide ((bL e).length<=4)&&(bL e).all eh
noncomputable def abv:List AV->List (Option Row)->a6 cy
 |[.ptr 3 0,.ptr 517 0,.ptr 518 0,.ptr 576 0,.own p,.int .i64 n,.int .i64 i],[some (.box false [.int .i64 dV,.int .i64 z2]),some (.box false [.own q1]),some (.box false [.own cO]),some (.box false [.own mR]),some (.arr false (.agg [.int .i64,.str,.slice (.agg [.str,.int .i64]),.str,.slice (.agg [.str,.str]),.slice (.int .u8),.int .i64,.int .i64,.int .i64,.slice (.agg [.str,.int .i64,.int .i64,.bool])]) 89 dk none),some (.box false [.ct ms]),some (.box false [.ct us]),some (.arr false (.agg [.int .i64,.str,.slice (.int .i64)]) 49 out none)]=>
  .bt (hv ((out.length:Int)+4*((dk.length:Int)-i)<=1000000)&&((Nat.beq p 9990&&(Nat.beq q1 9991&&(Nat.beq cO 9992&&Nat.beq mR 9993)))&&(bl n i dk.length&&(fX (ms,us)&&dk.all sP))))
   (.leaf (.exit 0,[.ptr 3 0,.ptr 517 0,.ptr 518 0,.ptr 576 0,.own 9990,.int .i64 dk.length,.int .i64 dk.length],[some (.box false [.int .i64 dV,.int .i64 z2]),some (.box false [.own 9991]),some (.box false [.own 9992]),some (.box false [.own 9993]),some (.arr false db 89 dk none),some (.box false [.ct ((dk.drop i.toNat).foldl (C8 us) (ms,out)).1]),some (.box false [.ct us]),some (.arr false rF 49 ((dk.drop i.toNat).foldl (C8 us) (ms,out)).2 none)]))
 |_,_=>.no
noncomputable def K3:Ev.Loop:=⟨{len:=71,dr:=[5,8,9,10,35,36,37],rows:=[3,517,518,576,9990,9991,9992,9993],homes:=[(35,9990,89)],cells:=[(517,0,9991,0),(518,0,9992,0),(576,0,9993,49)]},dP abv⟩
def aqW(vs:List AV)(_:List (Option Row)):Nat:=match vs with
 |[_,_,_,_,_,.int _ n,.int _ i]=>(n-i).toNat
 |_=>0
def aqX:dj Tryz.prog abu [(11,K3)] Rk K3:=by
 refine ed g9.dX rfl (ch.nil aG) aqW (λaj vs rs k r h=>?_);unfold abv at h;split at h
 .rename_i p n i dV z2 q1 cO mR dk ms us out;obtain⟨mH,ai⟩:=u5 h;simp only[ba]at mH;obtain⟨wB,⟨AD,F5,F6,aqY⟩,mH,u7,jM⟩:=mH;have wB:=wC wB;obtain rfl:=cH AD;obtain rfl:=cH F5;obtain rfl:=cH F6;obtain rfl:=cH aqY;obtain⟨rfl,nN,j,rfl,Rl⟩:=eA mH;rw[bK]at ai;refine bn (b:=have av:=(dk.getD j .J);have aO:=(dk.length:Int);have aZ:=(pW av);have bk:=(Sh.agg [.int .i64,.str,.slice (.int .i64)]);have bF:=(Row.box false [.I dV,.I z2]);have bI:=(Sh.agg [.str,.int .i64,.int .i64,.bool]);have az:=[AV.I (aW av),.str (kT av),.ab (.agg [.str,.int .i64]) (eP av),.str (fp av),.ab (.agg [.str,.str]) (ix av),.ab (.int .u8) (iV av),.I (fA av),.I (hK av),.I (iW av),.ab bI (bL av)];have aF:=(Row.arr false (.agg [.int .i64,.str,.slice (.agg [.str,.int .i64]),.str,.slice (.agg [.str,.str]),.slice (.int .u8),.int .i64,.int .i64,.int .i64,bI.slice]) 89 dk none);have b3:=(Row.box false [.own 9991]);have cd:=(Row.box false [.own 9992]);have cJ:=(Row.box false [.own 9993]);have dD:=(j:Int);have bd:=(dD+(1:Int));have aI:=(List.foldl (C8 us) (sN (aW av) (aW av) us (stM aZ) (kX aZ) ms out,sO (aW av) (aW av) us (stM aZ) (kX aZ) ms out) (List.drop (IntKind.i64.wrap bd).toNat dk));bif decide (dD<aO)then bif inb dD dk.length then bif decide (j<dk.length)then bif aE==aE&&kS mG [.tup [.I 2],.J,.J,.J,.J,.J,.ptr 1125899906842625 0,.J,.J,.ptr 1125899906842626 0,.ptr 1125899906842628 0,.ptr 1125899906842630 0,.J,.ptr 1125899906842632 0,.J,.J,.J,.J,.J,.J,.J,.J,.J,.J,.J,.J,.J,.J,.J,.J,.J,.J,.J,.J,.J,.J,.own 1125899906842633,.I aO,.I dD,.bool (decide (dD<aO)),.eptr 1125899906842633 j 0,.agg az,.agg az,.fn 73 [.ref az],.J,.J,.J,.J,.J,.J,.J,.J,.J,.J,.J,.J,.J,.J,.J,.J,.J,.J,.J,.J,.J,.J,.J,.J,.J,.J,.J,.J]&&(decide (out.length+4<=1000000/\(bL av).length<=4/\aZ.length<=4)&&fX (ms,us)&&((bL av).all eh&&AB (iy 0 (bL av) []) aZ))then bif decide ((aO-IntKind.i64.wrap bd).toNat<(aO-dD).toNat)then bif hv (((sO (aW av) (aW av) us (stM aZ) (kX aZ) ms out).length:Int)+(4:Int)*(aO-IntKind.i64.wrap bd)<=(1000000:Int))&&(Nat.beq 9990 9990&&(Nat.beq 9991 9991&&(Nat.beq 9992 9992&&(9993:Nat).beq 9993))&&(bl aO (IntKind.i64.wrap bd) dk.length&&(fX (sN (aW av) (aW av) us (stM aZ) (kX aZ) ms out,us)&&dk.all sP)))then k (.exit 0) [.ptr 3 0,.ptr 517 0,.ptr 518 0,.ptr 576 0,.own 9990,.I aO,.I aO] [some bF,some b3,some cd,some cJ,some aF,some (.box false [.ct aI.fst]),some (.box false [.ct us]),some (.arr false bk 49 aI.snd none)]else none else none else none else none else none else k (.exit 0) [.ptr 3 0,.ptr 517 0,.ptr 518 0,.ptr 576 0,.own 9990,.I aO,.I dD] [some bF,some b3,some cd,some cJ,some aF,some (.box false [.ct ms]),some (.box false [.ct us]),some (.arr false bk 49 out none)]) ?_;conv=>zeta
  rw[<-ai];by_cases aL:j<dk.length
  .obtain⟨aU,bc,bw,bQ,bN⟩:=ew aL nN;have aR:sP (dk.getD j .J)=true:=jg jM aL;obtain⟨pI,MQ⟩:=jn.1 aR;have pI:=bH pI;have aB:(pW (dk.getD j .J)).length<=4:=lp (abp _ _ _) (by simpa using pI);have ay:(sO (aW (dk.getD j .J)) (aW (dk.getD j .J)) us (stM (pW (dk.getD j .J))) (kX (pW (dk.getD j .J))) ms out).length<=out.length+4:=lp (abq _ _ _ _ _ _) (by rw[abm];exact Nat.add_le_add_left aB _);have ag:fX (sN (aW (dk.getD j .J)) (aW (dk.getD j .J)) us (stM (pW (dk.getD j .J))) (kX (pW (dk.getD j .J))) ms out,us)=true:=abt _ _ _ _ _ (ms,out) u7;rw[tP _ _ _ _ aL];refine aT (a' aU) (aT (a' bc) (aT (a' (aS aL)) (aT (a' (aV (aV (ha aE) aG) (aV (aV (aS ⟨al,pI,aB⟩) u7) (aV MQ (abj rfl))))) ?_)));rw[bw];refine aT (a' bN) (aT (a' (aV (mN al) (aV (aV (b9 _) (aV (b9 _) (aV (b9 _) (b9 _)))) (aV bQ (aV ag jM))))) ?_);rfl
  .obtain rfl:j=dk.length:=al;exact oQ
 .cases h
def Rm(es:List AV)(y:Int):List AV:=kU (es.filter λe=> !lk y e)
def ib(es:List AV)(y:Int):List AV:=((Rm es y).foldl (C8 (hM es).2) ((hM es).1,[])).2
noncomputable def AH(es:List AV)(nx y:Int):Bool:=(small es.length&&es.all mc)&&(cK es.length&&(es.all hX&&(nc es&&(decide (es.length<=3/\(iX es nx).1=0)&&(eG y&&(fX (hM es)&&es.all sP))))))
def abw:∀(l:List AV)(e:AV),e∈kU l->e∈l
 |[],e,h=>h
 |[a],e,h=>h
 |[a,b],e,h=>by
  rw[KG]at h;cases ag:decide (iY b a<0)<;>rw[ag]at h<;>simp only[b4,cU,gv,mh,mi]at h⊢
  .exact h
  .exact h.symm
 |[a,b,c],e,h=>by rw[QQ]at h;cases af:decide (iY b a<0)<;>cases ao:decide (iY c a<0)<;>cases a1:decide (iY c b<0)<;>rw[af,ao,a1]at h<;>simp only[b4,cU,gv,mh,mi]at h⊢<;>rcases h with h|h|h<;>simp only[h,true_or,or_true]
 |a::b::c::d::l,e,h=>h
def aqZ:∀l:List AV,(kU l).length=l.length
 |[]=>rfl
 |[a]=>rfl
 |[a,b]=>by rw[KG];cases decide (iY b a<0)<;>rfl
 |[a,b,c]=>by rw[QQ];cases decide (iY b a<0)<;>cases decide (iY c a<0)<;>cases decide (iY c b<0)<;>rfl
 |a::b::c::d::l=>rfl
noncomputable def C9:List AV->a6 AV
 |[.agg [.ab (.agg [.int .i64,.str,.slice (.agg [.str,.int .i64]),.str,.slice (.agg [.str,.str]),.slice (.int .u8),.int .i64,.int .i64,.int .i64,.slice (.agg [.str,.int .i64,.int .i64,.bool])]) es,.int .i64 nx],.int .i64 y]=>.bt (AH es nx y) (.leaf (.tup [.ab rF (ib es y),.agg [.int .i64 0,.int .i64 0]]))
 |_=>.no
def aq0:Tryz.f9.body.map rS=some [H3 Tryz.f9.body 0]:=aG
def aq1:SumOK Tryz.prog 9 (aK C9)/\b5 (aK C9):=by
 refine⟨VK g9 (so g9 aG) Tryz.func9 (λaj aA k r h=>⟨[(11,K3)],λc aa=>ch.all (bs:=[Rk]) (by have af:Tryz.f9.body.map c7=some [Rk]:=aG;rw[aa]at af;simpa using af) (λb ag=>by simp only[gv,mh,mi]at ag;subst ag;exact⟨K3,aG,aqX⟩),?_⟩) (am9 aq0 rfl rfl),qD _⟩;change(C9 aA).run k=some r at h;unfold C9 at h;split at h
 .rename_i es nx y;obtain⟨aa,ai⟩:=u5 h;refine bn (b:=have av:=(Sh.agg [.int .i64,.str,.slice (.int .i64)]);bif small es.length&&es.all mc then bif(iX es nx).fst !=0 then k (.tup [.ab av [],.agg [.I (iX es nx).fst,.I (iX es nx).snd]])else bif !eG y then k (.tup [.ab av [],.agg [.I 3,.I (-7:Int)]])else bif cK es.length then bif(aE).beq aE&&(((λx=>aE+x) ((λx=>x+1) 0)).beq (aE+1)&&(decide (es.length<=1000000)&&nc es))then bif(aE).beq aE&&(decide ((List.filter (λe=> !lk y e) es).length<=3)&&nc (List.filter (λe=> !lk y e) es))then bif small es.length&&es.all hX then bif hv ((([]:List AV).length:Int)+(4:Int)*(((kU (List.filter (λe=> !lk y e) es)).length:Int)-(0:Int))<=(1000000:Int))&&((35,9990,(89:TypeId)).snd.fst.beq 9990&&((517,0,9991,(0:TypeId)).snd.snd.fst.beq 9991&&((518,0,9992,(0:TypeId)).snd.snd.fst.beq 9992&&(9993:Nat).beq 9993))&&(bl ((kU (List.filter (λe=> !lk y e) es)).length:Int) (0:Int) (kU (List.filter (λe=> !lk y e) es)).length&&(fX ((hM es).fst,(hM es).snd)&&(kU (List.filter (λe=> !lk y e) es)).all sP)))then k (.tup [.ab av (List.foldl (C8 (hM es).snd) ((hM es).fst,[]) (List.drop 0 (kU (List.filter (λe=> !lk y e) es)))).snd,.agg [.I 0,.I 0]])else none else none else none else none else none else none) ?_;conv=>zeta
  unfold AH at aa;obtain⟨b2,aa⟩:=jn.1 aa;obtain⟨bX,aa⟩:=jn.1 aa;obtain⟨c3,aa⟩:=jn.1 aa;obtain⟨mu,aa⟩:=jn.1 aa;obtain⟨c5,aa⟩:=jn.1 aa;obtain⟨uo,aa⟩:=jn.1 aa;obtain⟨Hu,Re⟩:=jn.1 aa;obtain⟨d1,d2⟩:=bH c5;have b1:(es.filter λe=> !lk y e).length<=3:=lp (List.length_filter_le _ _) d1;have cS:=aqZ (es.filter λe=> !lk y e);have aq2:nc (es.filter λe=> !lk y e)=true:=Z' λe he=>QN mu e (GF.1 he).1;have aq3:(kU (es.filter λe=> !lk y e)).all sP=true:=ec.2 λe he=>ec.1 Re e (GF.1 (abw _ e he)).1;refine aT (a' b2) (aT (fP (by rw[d2];rfl)) (aT (fP (by rw[uo];rfl)) (aT (a' bX) ?_)));refine aT (a' (aV (b9 _) (aV (b9 _) (aV (aS al) mu)))) ?_;refine aT (a' (aV (b9 _) (aV (aS b1) aq2))) ?_;refine aT (a' (aV (jn.1 b2).1 c3)) ?_;refine aT (a' (aV (mN GY) (aV (aV (b9 _) (aV (b9 _) (aV (b9 _) (b9 _)))) (aV (e1 (aS al)) (aV Hu aq3))))) ?_;exact ai
 .cases h
end Go.Proofs.YtijdnecnjenleaaGreatDoor
