/-
  queue.Ready: the record of its loop over a function, one round of it.
-/
import Derived.Test.YtijdnecnjenleaaGreatDoorKrB
set_option linter.all false
namespace Go.Proofs.YtijdnecnjenleaaGreatDoor
open Go.Ev
variable{v:AV}{es:List AV}
noncomputable def ZG(f:Nat):Env:={pure:=[(66,aK An)],opens:=[(31,cz (FM f)),(75,cz CQ)],D2:=[75]}
def ZH(f:Nat):aM Tryz.prog (ZG f):=aM.flags (aq:={pure:=[(66,aK An)],opens:=[(31,cz (FM f)),(75,cz CQ)]}) (aM.br (aM.iS (aM.iS bV anH) (anI f)) QH)
def x8{e:AV}(h:fB e=true):(cK (eP e).length&&(cK (ix e).length&&cK (iV e).length))=true:=by unfold fB at h;rw[ba]at h;exact h.1
def x9{e:AV}(h:fB e=true):cK (bL e).length=true:=by unfold fB at h;rw[ba]at h;exact h.2
def Hk{n:Int}{m j:Nat}(e:n=m)(h:j<=m)(an:m<=9223372036854775807):bl n (j:Int) m=true:=by subst e;exact sz (aS rfl) (sz (aS al) (sz (aS al) (aS an)))
def qI{e:AV}{i:Nat}(h:es.all fB=true)(he:es[i]?=some e):fB e=true:=ec.1 h e (pk he)
def ZI(s:Sh)(nx:Int)(pre cs post ws:List AV):cy:=(.exit 0,[.ptr 0 0,.ptr 1 0,.int .i64 ((pre.length+(post.length+1):Nat):Int),.int .i64 ((pre.length+(post.length+1):Nat):Int)],[some (.box false [.own 9999,.int .i64 nx]),some (.box false [.bf s,.int .i64 0]),some (.cj false db 89 pre cs post),some (.arr false fW 110 ws none)])
def ZJ:List AV->List (Option Row)->a6 cy
 |[.ptr 0 0,.ptr 1 0,.int .i64 n,.int .i64 i],[some (.box false [.own 9999,.int .i64 nx]),some (.box false [.bf s,.int .i64 0]),some (.cj false (.agg [.int .i64,.str,.slice (.agg [.str,.int .i64]),.str,.slice (.agg [.str,.str]),.slice (.int .u8),.int .i64,.int .i64,.int .i64,.slice (.agg [.str,.int .i64,.int .i64,.bool])]) 89 pre [.int .i64 n0,.str f,.ab (.agg [.str,.int .i64]) ae,.str d,.ab (.agg [.str,.str]) aC,.ab (.int .u8) bs,.int .i64 b0,.int .i64 bS,.int .i64 n3,.ab (.agg [.str,.int .i64,.int .i64,.bool]) ws] post),none]=>
  .bt (bl n i (pre.length+(post.length+1))&&((decide (i<=pre.length/\pre.length+post.length<=2)&&((cK ae.length&&(cK aC.length&&cK bs.length))&&cK ws.length))&&(pre.all fB&&post.all fB)))
   (.leaf (ZI s nx (pre.take i.toNat++(pre.drop i.toNat).map bZ) [.int .i64 n0,.str f,.ab eR ae,.str d,.ab fb aC,.ab (.int .u8) bs,.int .i64 b0,.int .i64 bS,.int .i64 n3,.own 9998] (post.map bZ) ws))
 |[.ptr 0 0,.ptr 1 0,.int .i64 n,.int .i64 i],[some (.box false [.own 9999,.int .i64 nx]),some (.box false [.bf s,.int .i64 0]),some (.cj false (.agg [.int .i64,.str,.slice (.agg [.str,.int .i64]),.str,.slice (.agg [.str,.str]),.slice (.int .u8),.int .i64,.int .i64,.int .i64,.slice (.agg [.str,.int .i64,.int .i64,.bool])]) 89 pre [.int .i64 n0,.str f,.ab (.agg [.str,.int .i64]) ae,.str d,.ab (.agg [.str,.str]) aC,.ab (.int .u8) bs,.int .i64 b0,.int .i64 bS,.int .i64 n3,.own q] post),some (.arr false (.agg [.str,.int .i64,.int .i64,.bool]) 110 ws none)]=>
  .bt (bl n i (pre.length+(post.length+1))&&(Nat.beq q 9998&&(decide (pre.length+1<=i/\pre.length+post.length<=2)&&post.all fB)))
   (.leaf (ZI s nx pre [.int .i64 n0,.str f,.ab eR ae,.str d,.ab fb aC,.ab (.int .u8) bs,.int .i64 b0,.int .i64 bS,.int .i64 n3,.own 9998] (post.take (i.toNat-(pre.length+1))++(post.drop (i.toNat-(pre.length+1))).map bZ) ws))
 |_,_=>.no
def Ku:Ev.Loop:=⟨{len:=37,dr:=[1,2,11,12],rows:=[0,1,9999,9998],cells:=[(0,0,9999,89),(9999,9,9998,110)]},dP ZJ⟩
theorem anJ(f:Nat):dj Tryz.prog (ZG f) [(3,Ku)] Kv Ku:=by
 refine ed (ZH f).dX rfl (ch.nil aG) ZK (λaj vs rs k r h=>?_);unfold ZJ at h;split at h
 .rename_i n i nx s pre n0 f ae d aC bs b0 bS n3 ws post;obtain⟨aa,ai⟩:=bz h;simp only[ba]at aa;obtain⟨aa,⟨aX,fY,kD⟩,cu,ig⟩:=aa;have fY:=aV fY.1 (aV fY.2.1 fY.2.2);have aX:=bH aX;obtain⟨rfl,an,j,rfl,aP⟩:=eA aa;simp only[bK]at ai;have aL:j<pre.length+(post.length+1):=al;obtain⟨aU,bc,bw,bQ,bN⟩:=ew aL an
  match pre,aX,cu,aL,an,aa,h,ai with
  |[],aX,cu,aL,an,aa,h,ai=>
   simp only[gw]at aX aL an;obtain rfl:j=0:=al;refine bn (b:=have aI:=(Sh.agg [.str,.int .i64,.int .i64,.bool]);have aO:=([]:List AV);have av:=(aO.length+(post.length+1));have aZ:=(Row.box false [.own 9999,.I nx]);have bd:=(Sh.agg [.str,.int .i64]);have bF:=(Row.box false [.bf s,.I 0]);have bI:=((0:Nat):Int);have b3:=((1:Nat):Int);have aF:=([]++List.map bZ (List.drop ((b3).toNat-(aO.length+1)) post));have bk:=((aO.length+(aF.length+1)):Int);have cd:=(Sh.agg [.str,.str]);have cJ:=(Sh.int .u8);have az:=(Sh.agg [.int .i64,.str,bd.slice,.str,cd.slice,cJ.slice,.int .i64,.int .i64,.int .i64,aI.slice]);have dD:=(av:Int);bif decide (bI<dD)then bif inb bI av then bif cK ae.length&&(cK aC.length&&cK bs.length)then bif cK ws.length then bif decide ((dD-b3).toNat<(dD-bI).toNat)then bif bl dD (b3) av&&(Nat.beq 9998 9998&&(decide ((aO.length:Int)+(1:Int)<=b3/\aO.length+post.length<=2)&&post.all fB))then k (.exit 0) [.ptr 0 0,.ptr 1 0,.I bk,.I bk] [some aZ,some bF,some (.cj false az 89 [] [.I n0,.str f,.ab bd ae,.str d,.ab cd aC,.ab cJ bs,.I b0,.I bS,.I n3,.own 9998] aF),some (.arr false aI 110 ws none)]else none else none else none else none else none else k (.exit 0) [.ptr 0 0,.ptr 1 0,.I dD,.I bI] [some aZ,some bF,some (.cj false az 89 [] [.I n0,.str f,.ab bd ae,.str d,.ab cd aC,.ab cJ bs,.I b0,.I bS,.I n3,.ab aI ws] post),none]) ?_;conv=>zeta
   exact Mu
  |[eF],aX,cu,aL,an,aa,h,ai=>
   simp only[gw,e5]at aX aL an;rcases(by omega:j=0\/j=1)with rfl|rfl
   .refine bn (b:=have az:=([eF].length+(post.length+1));have aF:=(Sh.agg [.str,.int .i64,.int .i64,.bool]);have aI:=(([bZ eF].length+((List.map bZ post).length+1)):Int);have aO:=(Row.box false [.own 9999,.I nx]);have aZ:=(Sh.agg [.str,.int .i64]);have bd:=(Row.box false [.bf s,.I 0]);have bk:=((0:Nat):Int);have bF:=(Sh.agg [.str,.str]);have bI:=(Sh.int .u8);have av:=(Sh.agg [.int .i64,.str,aZ.slice,.str,bF.slice,bI.slice,.int .i64,.int .i64,.int .i64,aF.slice]);have b3:=(az:Int);bif decide (bk<b3)then bif inb bk az then bif cK (eP eF).length&&(cK (ix eF).length&&cK (iV eF).length)then bif cK (bL eF).length then bif decide ((b3-((1:Nat):Int)).toNat<(b3-bk).toNat)then bif bl b3 (((1:Nat):Int)) ([bZ eF].length+(post.length+1))&&(decide (((1:Nat):Int)<=([bZ eF].length:Int)/\[bZ eF].length+post.length<=2)&&(cK ae.length&&(cK aC.length&&cK bs.length)&&cK ws.length)&&([bZ eF].all fB&&post.all fB))then k (.exit 0) [.ptr 0 0,.ptr 1 0,.I aI,.I aI] [some aO,some bd,some (.cj false av 89 [bZ eF] [.I n0,.str f,.ab aZ ae,.str d,.ab bF aC,.ab bI bs,.I b0,.I bS,.I n3,.own 9998] (List.map bZ post)),some (.arr false aF 110 ws none)]else none else none else none else none else none else k (.exit 0) [.ptr 0 0,.ptr 1 0,.I b3,.I bk] [some aO,some bd,some (.cj false av 89 [eF] [.I n0,.str f,.ab aZ ae,.str d,.ab bF aC,.ab bI bs,.I b0,.I bS,.I n3,.ab aF ws] post),none]) ?_;conv=>zeta
    rw[<-ai];refine aT (a' (aS yO)) ?_;refine aT (a' (ie al yO)) ?_;refine aT (a' (x8 (qI (i:=0) cu rfl))) ?_;refine aT (a' (x9 (qI (i:=0) cu rfl))) ?_;exact Mw
   .refine bn (b:=have av:=([eF].length+(post.length+1));have aI:=(Sh.agg [.str,.int .i64,.int .i64,.bool]);have aO:=(Row.box false [.own 9999,.I nx]);have aZ:=(Sh.agg [.str,.int .i64]);have bk:=(Row.box false [.bf s,.I 0]);have bF:=((1:Nat):Int);have bI:=((2:Nat):Int);have aF:=([]++List.map bZ (List.drop ((bI).toNat-([eF].length+1)) post));have bd:=(([eF].length+(aF.length+1)):Int);have b3:=(Sh.agg [.str,.str]);have cd:=(Sh.int .u8);have az:=(Sh.agg [.int .i64,.str,aZ.slice,.str,b3.slice,cd.slice,.int .i64,.int .i64,.int .i64,aI.slice]);have cJ:=(av:Int);bif decide (bF<cJ)then bif inb bF av then bif cK ae.length&&(cK aC.length&&cK bs.length)then bif cK ws.length then bif decide ((cJ-bI).toNat<(cJ-bF).toNat)then bif bl cJ (bI) av&&(Nat.beq 9998 9998&&(decide (([eF].length:Int)+(1:Int)<=bI/\[eF].length+post.length<=2)&&post.all fB))then k (.exit 0) [.ptr 0 0,.ptr 1 0,.I bd,.I bd] [some aO,some bk,some (.cj false az 89 [eF] [.I n0,.str f,.ab aZ ae,.str d,.ab b3 aC,.ab cd bs,.I b0,.I bS,.I n3,.own 9998] aF),some (.arr false aI 110 ws none)]else none else none else none else none else none else k (.exit 0) [.ptr 0 0,.ptr 1 0,.I cJ,.I bF] [some aO,some bk,some (.cj false az 89 [eF] [.I n0,.str f,.ab aZ ae,.str d,.ab b3 aC,.ab cd bs,.I b0,.I bS,.I n3,.ab aI ws] post),none]) ?_;conv=>zeta
    exact Mu
  |[eF,cF],aX,cu,aL,an,aa,h,ai=>
   simp only[gw,e5]at aX aL an;rcases(by omega:j=0\/j=1\/j=2)with rfl|rfl|rfl
   .refine bn (b:=have az:=([eF,cF].length+(post.length+1));have aF:=(Sh.agg [.str,.int .i64,.int .i64,.bool]);have aI:=(([bZ eF,bZ cF].length+((List.map bZ post).length+1)):Int);have aO:=(Row.box false [.own 9999,.I nx]);have aZ:=(Sh.agg [.str,.int .i64]);have bd:=(Row.box false [.bf s,.I 0]);have bk:=((0:Nat):Int);have bF:=(Sh.agg [.str,.str]);have bI:=(Sh.int .u8);have av:=(Sh.agg [.int .i64,.str,aZ.slice,.str,bF.slice,bI.slice,.int .i64,.int .i64,.int .i64,aF.slice]);have b3:=(az:Int);bif decide (bk<b3)then bif inb bk az then bif cK (eP eF).length&&(cK (ix eF).length&&cK (iV eF).length)then bif cK (bL eF).length then bif decide ((b3-((1:Nat):Int)).toNat<(b3-bk).toNat)then bif bl b3 (((1:Nat):Int)) ([bZ eF,cF].length+(post.length+1))&&(decide (((1:Nat):Int)<=([bZ eF,cF].length:Int)/\[bZ eF,cF].length+post.length<=2)&&(cK ae.length&&(cK aC.length&&cK bs.length)&&cK ws.length)&&([bZ eF,cF].all fB&&post.all fB))then k (.exit 0) [.ptr 0 0,.ptr 1 0,.I aI,.I aI] [some aO,some bd,some (.cj false av 89 [bZ eF,bZ cF] [.I n0,.str f,.ab aZ ae,.str d,.ab bF aC,.ab bI bs,.I b0,.I bS,.I n3,.own 9998] (List.map bZ post)),some (.arr false aF 110 ws none)]else none else none else none else none else none else k (.exit 0) [.ptr 0 0,.ptr 1 0,.I b3,.I bk] [some aO,some bd,some (.cj false av 89 [eF,cF] [.I n0,.str f,.ab aZ ae,.str d,.ab bF aC,.ab bI bs,.I b0,.I bS,.I n3,.ab aF ws] post),none]) ?_;conv=>zeta
    rw[<-ai];refine aT (a' (aS yO)) ?_;refine aT (a' (ie al yO)) ?_;refine aT (a' (x8 (qI (i:=0) cu rfl))) ?_;refine aT (a' (x9 (qI (i:=0) cu rfl))) ?_;exact Mw
   .refine bn (b:=have az:=([eF,cF].length+(post.length+1));have aF:=(Sh.agg [.str,.int .i64,.int .i64,.bool]);have aO:=(Row.box false [.own 9999,.I nx]);have aZ:=(Sh.agg [.str,.int .i64]);have bd:=(Row.box false [.bf s,.I 0]);have bk:=[eF,bZ cF];have aI:=((bk.length+((List.map bZ post).length+1)):Int);have bF:=((1:Nat):Int);have bI:=(Sh.agg [.str,.str]);have b3:=(Sh.int .u8);have av:=(Sh.agg [.int .i64,.str,aZ.slice,.str,bI.slice,b3.slice,.int .i64,.int .i64,.int .i64,aF.slice]);have cd:=(az:Int);bif decide (bF<cd)then bif inb bF az then bif cK (eP cF).length&&(cK (ix cF).length&&cK (iV cF).length)then bif cK (bL cF).length then bif decide ((cd-((2:Nat):Int)).toNat<(cd-bF).toNat)then bif bl cd (((2:Nat):Int)) (bk.length+(post.length+1))&&(decide (((2:Nat):Int)<=(bk.length:Int)/\bk.length+post.length<=2)&&(cK ae.length&&(cK aC.length&&cK bs.length)&&cK ws.length)&&(bk.all fB&&post.all fB))then k (.exit 0) [.ptr 0 0,.ptr 1 0,.I aI,.I aI] [some aO,some bd,some (.cj false av 89 bk [.I n0,.str f,.ab aZ ae,.str d,.ab bI aC,.ab b3 bs,.I b0,.I bS,.I n3,.own 9998] (List.map bZ post)),some (.arr false aF 110 ws none)]else none else none else none else none else none else k (.exit 0) [.ptr 0 0,.ptr 1 0,.I cd,.I bF] [some aO,some bd,some (.cj false av 89 [eF,cF] [.I n0,.str f,.ab aZ ae,.str d,.ab bI aC,.ab b3 bs,.I b0,.I bS,.I n3,.ab aF ws] post),none]) ?_;conv=>zeta
    rw[<-ai];refine aT (a' (aS yO)) ?_;refine aT (a' (ie al yO)) ?_;refine aT (a' (x8 (qI (i:=1) cu rfl))) ?_;refine aT (a' (x9 (qI (i:=1) cu rfl))) ?_;exact Mw
   .refine bn (b:=have av:=([eF,cF].length+(post.length+1));have aI:=(Sh.agg [.str,.int .i64,.int .i64,.bool]);have aZ:=(Row.box false [.own 9999,.I nx]);have bd:=(Sh.agg [.str,.int .i64]);have bk:=(Row.box false [.bf s,.I 0]);have bF:=((2:Nat):Int);have bI:=((3:Nat):Int);have aF:=([]++List.map bZ (List.drop ((bI).toNat-([eF,cF].length+1)) post));have aO:=(([eF,cF].length+(aF.length+1)):Int);have b3:=(Sh.agg [.str,.str]);have cd:=(Sh.int .u8);have az:=(Sh.agg [.int .i64,.str,bd.slice,.str,b3.slice,cd.slice,.int .i64,.int .i64,.int .i64,aI.slice]);have cJ:=(av:Int);bif decide (bF<cJ)then bif inb bF av then bif cK ae.length&&(cK aC.length&&cK bs.length)then bif cK ws.length then bif decide ((cJ-bI).toNat<(cJ-bF).toNat)then bif bl cJ (bI) av&&(Nat.beq 9998 9998&&(decide (([eF,cF].length:Int)+(1:Int)<=bI/\[eF,cF].length+post.length<=2)&&post.all fB))then k (.exit 0) [.ptr 0 0,.ptr 1 0,.I aO,.I aO] [some aZ,some bk,some (.cj false az 89 [eF,cF] [.I n0,.str f,.ab bd ae,.str d,.ab b3 aC,.ab cd bs,.I b0,.I bS,.I n3,.own 9998] aF),some (.arr false aI 110 ws none)]else none else none else none else none else none else k (.exit 0) [.ptr 0 0,.ptr 1 0,.I cJ,.I bF] [some aZ,some bk,some (.cj false az 89 [eF,cF] [.I n0,.str f,.ab bd ae,.str d,.ab b3 aC,.ab cd bs,.I b0,.I bS,.I n3,.ab aI ws] post),none]) ?_;conv=>zeta
    exact Mu
  |_::_::_::_,aX,cu,aL,an,aa,h,ai=>simp only[e5]at aX;omega
 .rename_i n i nx s pre n0 f ae d aC bs b0 bS n3 q post ws;obtain⟨aa,ai⟩:=bz h;simp only[ba]at aa;obtain⟨aa,aH,aX,ig⟩:=aa;have aX:=bH aX;obtain rfl:=cH aH;obtain⟨rfl,an,j,rfl,aP⟩:=eA aa;simp only[bK]at ai
  match pre,post,aX,an,aa,ig,h,ai,aP with
  |[],[],aX,an,aa,ig,h,ai,aP=>
   simp only[gw]at aX an aP;obtain rfl:j=1:=al;refine bn (b:=have av:=(Sh.agg [.str,.int .i64,.int .i64,.bool]);k (.exit 0) [.ptr 0 0,.ptr 1 0,.I ((([]:List AV).length+(([]:List AV).length+1)):Int),.I ((1:Nat):Int)] [some (.box false [.own 9999,.I nx]),some (.box false [.bf s,.I 0]),some (.cj false (.agg [.int .i64,.str,.slice (.agg [.str,.int .i64]),.str,.slice (.agg [.str,.str]),.slice (.int .u8),.int .i64,.int .i64,.int .i64,av.slice]) 89 [] [.I n0,.str f,.ab (.agg [.str,.int .i64]) ae,.str d,.ab (.agg [.str,.str]) aC,.ab (.int .u8) bs,.I b0,.I bS,.I n3,.own 9998] []),some (.arr false av 110 ws none)]) ?_;conv=>zeta
   rw[<-ai];rfl
  |[],[bo],aX,an,aa,ig,h,ai,aP=>
   simp only[gw,e5]at aX an aP;rcases(by omega:j=1\/j=2)with rfl|rfl
   .refine bn (b:=have az:=(Sh.agg [.str,.int .i64,.int .i64,.bool]);have aF:=([]:List AV);have av:=(aF.length+([bZ bo].length+1));bif cK (eP bo).length&&(cK (ix bo).length&&cK (iV bo).length)then bif cK (bL bo).length then bif bl ((aF.length+([bo].length+1)):Int) (((2:Nat):Int)) av&&(Nat.beq 9998 9998&&(decide ((aF.length:Int)+(1:Int)<=((2:Nat):Int)/\aF.length+[bZ bo].length<=2)&&[bZ bo].all fB))then k (.exit 0) [.ptr 0 0,.ptr 1 0,.I (av:Int),.I (av:Int)] [some (.box false [.own 9999,.I nx]),some (.box false [.bf s,.I 0]),some (.cj false (.agg [.int .i64,.str,.slice (.agg [.str,.int .i64]),.str,.slice (.agg [.str,.str]),.slice (.int .u8),.int .i64,.int .i64,.int .i64,az.slice]) 89 [] [.I n0,.str f,.ab (.agg [.str,.int .i64]) ae,.str d,.ab (.agg [.str,.str]) aC,.ab (.int .u8) bs,.I b0,.I bS,.I n3,.own 9998] [bZ bo]),some (.arr false az 110 ws none)]else none else none else none) ?_;conv=>zeta
    rw[<-ai];refine aT (a' (x8 (qI (i:=0) ig rfl))) ?_;refine aT (a' (x9 (qI (i:=0) ig rfl))) ?_;exact Hl
   .refine bn (b:=have av:=(Sh.agg [.str,.int .i64,.int .i64,.bool]);k (.exit 0) [.ptr 0 0,.ptr 1 0,.I ((([]:List AV).length+([bo].length+1)):Int),.I ((2:Nat):Int)] [some (.box false [.own 9999,.I nx]),some (.box false [.bf s,.I 0]),some (.cj false (.agg [.int .i64,.str,.slice (.agg [.str,.int .i64]),.str,.slice (.agg [.str,.str]),.slice (.int .u8),.int .i64,.int .i64,.int .i64,av.slice]) 89 [] [.I n0,.str f,.ab (.agg [.str,.int .i64]) ae,.str d,.ab (.agg [.str,.str]) aC,.ab (.int .u8) bs,.I b0,.I bS,.I n3,.own 9998] [bo]),some (.arr false av 110 ws none)]) ?_;conv=>zeta
    rw[<-ai];rfl
  |[],[bo,r1],aX,an,aa,ig,h,ai,aP=>
   simp only[gw,e5]at aX an aP;rcases(by omega:j=1\/j=2\/j=3)with rfl|rfl|rfl
   .refine bn (b:=have az:=([]:List AV);have av:=((az.length+([bZ bo,bZ r1].length+1)):Int);have aF:=(Sh.agg [.str,.int .i64,.int .i64,.bool]);bif cK (eP bo).length&&(cK (ix bo).length&&cK (iV bo).length)then bif cK (bL bo).length then bif bl ((az.length+([bo,r1].length+1)):Int) (((2:Nat):Int)) (az.length+([bZ bo,r1].length+1))&&(Nat.beq 9998 9998&&(decide ((az.length:Int)+(1:Int)<=((2:Nat):Int)/\az.length+[bZ bo,r1].length<=2)&&[bZ bo,r1].all fB))then k (.exit 0) [.ptr 0 0,.ptr 1 0,.I av,.I av] [some (.box false [.own 9999,.I nx]),some (.box false [.bf s,.I 0]),some (.cj false (.agg [.int .i64,.str,.slice (.agg [.str,.int .i64]),.str,.slice (.agg [.str,.str]),.slice (.int .u8),.int .i64,.int .i64,.int .i64,aF.slice]) 89 [] [.I n0,.str f,.ab (.agg [.str,.int .i64]) ae,.str d,.ab (.agg [.str,.str]) aC,.ab (.int .u8) bs,.I b0,.I bS,.I n3,.own 9998] [bZ bo,bZ r1]),some (.arr false aF 110 ws none)]else none else none else none) ?_;conv=>zeta
    rw[<-ai];refine aT (a' (x8 (qI (i:=0) ig rfl))) ?_;refine aT (a' (x9 (qI (i:=0) ig rfl))) ?_;exact Hl
   .refine bn (b:=have az:=(Sh.agg [.str,.int .i64,.int .i64,.bool]);have aF:=([]:List AV);have av:=(aF.length+([bo,bZ r1].length+1));bif cK (eP r1).length&&(cK (ix r1).length&&cK (iV r1).length)then bif cK (bL r1).length then bif bl ((aF.length+([bo,r1].length+1)):Int) (((3:Nat):Int)) av&&(Nat.beq 9998 9998&&(decide ((aF.length:Int)+(1:Int)<=((3:Nat):Int)/\aF.length+[bo,bZ r1].length<=2)&&[bo,bZ r1].all fB))then k (.exit 0) [.ptr 0 0,.ptr 1 0,.I (av:Int),.I (av:Int)] [some (.box false [.own 9999,.I nx]),some (.box false [.bf s,.I 0]),some (.cj false (.agg [.int .i64,.str,.slice (.agg [.str,.int .i64]),.str,.slice (.agg [.str,.str]),.slice (.int .u8),.int .i64,.int .i64,.int .i64,az.slice]) 89 [] [.I n0,.str f,.ab (.agg [.str,.int .i64]) ae,.str d,.ab (.agg [.str,.str]) aC,.ab (.int .u8) bs,.I b0,.I bS,.I n3,.own 9998] [bo,bZ r1]),some (.arr false az 110 ws none)]else none else none else none) ?_;conv=>zeta
    rw[<-ai];refine aT (a' (x8 (qI (i:=1) ig rfl))) ?_;refine aT (a' (x9 (qI (i:=1) ig rfl))) ?_;exact Hl
   .refine bn (b:=have av:=(Sh.agg [.str,.int .i64,.int .i64,.bool]);k (.exit 0) [.ptr 0 0,.ptr 1 0,.I ((([]:List AV).length+([bo,r1].length+1)):Int),.I ((3:Nat):Int)] [some (.box false [.own 9999,.I nx]),some (.box false [.bf s,.I 0]),some (.cj false (.agg [.int .i64,.str,.slice (.agg [.str,.int .i64]),.str,.slice (.agg [.str,.str]),.slice (.int .u8),.int .i64,.int .i64,.int .i64,av.slice]) 89 [] [.I n0,.str f,.ab (.agg [.str,.int .i64]) ae,.str d,.ab (.agg [.str,.str]) aC,.ab (.int .u8) bs,.I b0,.I bS,.I n3,.own 9998] [bo,r1]),some (.arr false av 110 ws none)]) ?_;conv=>zeta
    rw[<-ai];rfl
  |[eF],[],aX,an,aa,ig,h,ai,aP=>
   simp only[gw,e5]at aX an aP;obtain rfl:j=2:=al;refine bn (b:=have av:=(Sh.agg [.str,.int .i64,.int .i64,.bool]);k (.exit 0) [.ptr 0 0,.ptr 1 0,.I (([eF].length+(([]:List AV).length+1)):Int),.I ((2:Nat):Int)] [some (.box false [.own 9999,.I nx]),some (.box false [.bf s,.I 0]),some (.cj false (.agg [.int .i64,.str,.slice (.agg [.str,.int .i64]),.str,.slice (.agg [.str,.str]),.slice (.int .u8),.int .i64,.int .i64,.int .i64,av.slice]) 89 [eF] [.I n0,.str f,.ab (.agg [.str,.int .i64]) ae,.str d,.ab (.agg [.str,.str]) aC,.ab (.int .u8) bs,.I b0,.I bS,.I n3,.own 9998] []),some (.arr false av 110 ws none)]) ?_;conv=>zeta
   rw[<-ai];rfl
  |[eF],[bo],aX,an,aa,ig,h,ai,aP=>
   simp only[gw,e5]at aX an aP;rcases(by omega:j=2\/j=3)with rfl|rfl
   .refine bn (b:=have av:=([eF].length+([bZ bo].length+1));have az:=(Sh.agg [.str,.int .i64,.int .i64,.bool]);bif cK (eP bo).length&&(cK (ix bo).length&&cK (iV bo).length)then bif cK (bL bo).length then bif bl (([eF].length+([bo].length+1)):Int) (((3:Nat):Int)) av&&(Nat.beq 9998 9998&&(decide (([eF].length:Int)+(1:Int)<=((3:Nat):Int)/\[eF].length+[bZ bo].length<=2)&&[bZ bo].all fB))then k (.exit 0) [.ptr 0 0,.ptr 1 0,.I (av:Int),.I (av:Int)] [some (.box false [.own 9999,.I nx]),some (.box false [.bf s,.I 0]),some (.cj false (.agg [.int .i64,.str,.slice (.agg [.str,.int .i64]),.str,.slice (.agg [.str,.str]),.slice (.int .u8),.int .i64,.int .i64,.int .i64,az.slice]) 89 [eF] [.I n0,.str f,.ab (.agg [.str,.int .i64]) ae,.str d,.ab (.agg [.str,.str]) aC,.ab (.int .u8) bs,.I b0,.I bS,.I n3,.own 9998] [bZ bo]),some (.arr false az 110 ws none)]else none else none else none) ?_;conv=>zeta
    rw[<-ai];refine aT (a' (x8 (qI (i:=0) ig rfl))) ?_;refine aT (a' (x9 (qI (i:=0) ig rfl))) ?_;exact Hl
   .refine bn (b:=have av:=(Sh.agg [.str,.int .i64,.int .i64,.bool]);k (.exit 0) [.ptr 0 0,.ptr 1 0,.I (([eF].length+([bo].length+1)):Int),.I ((3:Nat):Int)] [some (.box false [.own 9999,.I nx]),some (.box false [.bf s,.I 0]),some (.cj false (.agg [.int .i64,.str,.slice (.agg [.str,.int .i64]),.str,.slice (.agg [.str,.str]),.slice (.int .u8),.int .i64,.int .i64,.int .i64,av.slice]) 89 [eF] [.I n0,.str f,.ab (.agg [.str,.int .i64]) ae,.str d,.ab (.agg [.str,.str]) aC,.ab (.int .u8) bs,.I b0,.I bS,.I n3,.own 9998] [bo]),some (.arr false av 110 ws none)]) ?_;conv=>zeta
    rw[<-ai];rfl
  |[eF,cF],[],aX,an,aa,ig,h,ai,aP=>
   simp only[gw,e5]at aX an aP;obtain rfl:j=3:=al;refine bn (b:=have av:=(Sh.agg [.str,.int .i64,.int .i64,.bool]);k (.exit 0) [.ptr 0 0,.ptr 1 0,.I (([eF,cF].length+(([]:List AV).length+1)):Int),.I ((3:Nat):Int)] [some (.box false [.own 9999,.I nx]),some (.box false [.bf s,.I 0]),some (.cj false (.agg [.int .i64,.str,.slice (.agg [.str,.int .i64]),.str,.slice (.agg [.str,.str]),.slice (.int .u8),.int .i64,.int .i64,.int .i64,av.slice]) 89 [eF,cF] [.I n0,.str f,.ab (.agg [.str,.int .i64]) ae,.str d,.ab (.agg [.str,.str]) aC,.ab (.int .u8) bs,.I b0,.I bS,.I n3,.own 9998] []),some (.arr false av 110 ws none)]) ?_;conv=>zeta
   rw[<-ai];rfl
  |_::_::_::_,_,aX,an,aa,ig,h,ai,aP=>simp only[e5]at aX;omega
  |[],_::_::_::_,aX,an,aa,ig,h,ai,aP=>simp only[e5,gw]at aX;omega
  |[_],_::_::_,aX,an,aa,ig,h,ai,aP=>simp only[e5,gw]at aX;omega
  |[_,_],_::_,aX,an,aa,ig,h,ai,aP=>simp only[e5,gw]at aX;omega
 .cases h
def x'(f:Nat):List AV->List Row->a6 hf
 |[.agg [.ab (.agg [.int .i64,.str,.slice (.agg [.str,.int .i64]),.str,.slice (.agg [.str,.str]),.slice (.int .u8),.int .i64,.int .i64,.int .i64,.slice (.agg [.str,.int .i64,.int .i64,.bool])]) es,.int .i64 nx]],[]=>.bt (decide (f<es.length/\es.length<=3)&&es.all fB) (.leaf (.agg [.own bY,.int .i64 nx],[],[.cj false db 89 ((es.take f).map bZ) [.int .i64 (aW (es.getD f .J)),.str (kT (es.getD f .J)),.ab eR (eP (es.getD f .J)),.str (fp (es.getD f .J)),.ab fb (ix (es.getD f .J)),.ab (.int .u8) (iV (es.getD f .J)),.int .i64 (fA (es.getD f .J)),.int .i64 (hK (es.getD f .J)),.int .i64 (iW (es.getD f .J)),.own (bY+1)] ((es.drop (f+1)).map bZ),.arr false fW 110 (bL (es.getD f .J)) none]))
 |_,_=>.no
def ZL(f:Nat):fH Tryz.prog 41 (cz (x' f))/\hA (cz (x' f)):=by
 refine⟨PD (K:=[(3,Ku)]) (H:=[]) (b:=Kv) (l:=Ku) (ZH f) Tryz.func41 aG aG (anJ f) λaj aA rows k r h=>?_,kQ _⟩;change(x' f aA rows).run _=some r at h;unfold x' at h;split at h
 .rename_i es nx;obtain⟨aa,ai⟩:=bz h;simp only[ba]at aa;obtain⟨aa,cu⟩:=aa;have iD:=bH aa;refine⟨bb,λrows' gA=>?_⟩;obtain rfl:rows'=[]:=by cases rows' with|nil=>rfl|cons a b=>exact gA.elim
  refine bn (b:=have av:=(es.getD f .J);have az:=(List.drop (f+1) es);have aF:=(List.take f es);have aI:=(Sh.agg [.str,.int .i64,.int .i64,.bool]);have aO:=(aF.length+(az.length+1));bif cK es.length&&decide (f<es.length)then bif bl (aO:Int) (0:Int) aO&&(decide ((0:Int)<=(aF.length:Int)/\aF.length+az.length<=2)&&(cK (eP av).length&&(cK (ix av).length&&cK (iV av).length)&&cK (bL av).length)&&(aF.all fB&&az.all fB))then k (.agg [.own 2251799813685248,.I nx]) [] [.cj false (.agg [.int .i64,.str,.slice (.agg [.str,.int .i64]),.str,.slice (.agg [.str,.str]),.slice (.int .u8),.int .i64,.int .i64,.int .i64,aI.slice]) 89 ([]++List.map bZ (List.drop 0 aF)) [.I (aW av),.str (kT av),.ab (.agg [.str,.int .i64]) (eP av),.str (fp av),.ab (.agg [.str,.str]) (ix av),.ab (.int .u8) (iV av),.I (fA av),.I (hK av),.I (iW av),.own 2251799813685249] (List.map bZ az),.arr false aI 110 (bL av) none]else none else none) ?_;conv=>zeta
  have b1:(es.take f).length=f:=yQ;have cS:(es.drop (f+1)).length=es.length-(f+1):=mJ;have hT:fB (es.getD f .J)=true:=jg cu iD.1;refine aT (a' (aV (aS al) (aS iD.1))) ?_;refine aT (a' (aV (Hk (j:=0) rfl al al) (aV (aV (aS ⟨al,al⟩) (aV (x8 hT) (x9 hT))) (aV (ec.2 λe he=>ec.1 cu e (lr he)) (ec.2 λe he=>ec.1 cu e (jx he)))))) ?_;rw[<-ai];rfl
 .cases h
open IntKind
open Tryz
abbrev gm:Sh:=.int .i64
noncomputable def ZM:Env:={pure:=[(74,jc prog mC [] Tryz.f74)]}
def ZN:aM prog ZM:=aM.br bV (inl bV Tryz.func74 aG)
noncomputable def Kw:Code:=((Tryz.f68.body.map c7).getD []).headD .skip
def CR(x:Int)(es:List AV)(i:Nat):Bool:=aW (es.getD i .J)==x
def ZO:List AV->List (Option Row)->a6 cy
 |[.ab (.agg [.int .i64,.str,.slice (.agg [.str,.int .i64]),.str,.slice (.agg [.str,.str]),.slice (.int .u8),.int .i64,.int .i64,.int .i64,.slice (.agg [.str,.int .i64,.int .i64,.bool])]) es,.fn 74 [.ref [.int .i64 x,.str d,.ab (.int .i64) ae]],.int .i64 z,.int .i64 n,.int .i64 i],[]=>
  .bt (bl n i es.length) (h8 (CR x es) es.length (λq=>.leaf (.ret,[.ab db es,.fn 74 [.ref [.int .i64 x,.str d,.ab gm ae]],.int .i64 (q:Nat),.int .i64 es.length,.int .i64 (q:Nat)],[]))
   (.leaf (.exit 0,[.ab db es,.fn 74 [.ref [.int .i64 x,.str d,.ab gm ae]],.int .i64 z,.int .i64 es.length,.int .i64 es.length],[])) i.toNat)
 |_,_=>.no
def Kx:Ev.Loop:=⟨{len:=19,dr:=[0,1,4,7,8]},dP ZO⟩
def anK:dj prog ZM [(2,Kx)] Kw Kx:=by
 refine ed ZN.dX rfl (ch.nil aG) CG (λaj vs rs k r h=>?_);unfold ZO at h;split at h
 .rename_i es x d ae z n i;obtain⟨aa,ai⟩:=bz h;obtain⟨rfl,an,j,rfl,aP⟩:=eA aa;rw[bK]at ai;refine bn (b:=have av:=(Sh.agg [Sh.int i64,Sh.str,(Sh.agg [Sh.str,Sh.int i64]).slice,Sh.str,(Sh.agg [Sh.str,Sh.str]).slice,(Sh.int u8).slice,Sh.int i64,Sh.int i64,Sh.int i64,(Sh.agg [Sh.str,Sh.int i64,Sh.int i64,Sh.bool]).slice]);have az:=[AV.ref [.I x,.str d,.ab (.int .i64) ae]];have aI:=(es.length:Int);have aO:=(j:Int);have aZ:=(i64.wrap (aO+(1:Int)));have aF:=(bx (CR x es) es.length aZ.toNat);bif decide (aO<aI)then bif inb aO es.length then bif(aW (es.getD j .J))==x then k .ret [.ab av es,.fn 74 az,.I aO,.I aI,.I aO] []else bif decide ((aI-i64.wrap (aO+(1:Int))).toNat<(aI-aO).toNat)then bif bl aI aZ es.length then bif aF.isSome then k .ret [.ab av es,.fn 74 az,.I ((aF.getD 0):Int),.I aI,.I ((aF.getD 0):Int)] []else k (.exit 0) [.ab av es,.fn 74 az,.I z,.I aI,.I aI] []else none else none else none else k (.exit 0) [.ab av es,.fn 74 az,.I z,.I aI,.I aO] []) ?_;conv=>zeta
  rw[<-ai];by_cases aL:j<es.length
  .obtain⟨aU,bc,bw,bQ,bN⟩:=ew aL an;rw[j2 _ _ _ _ _ aL];have mD:CR x es j=(aW (es.getD j .J)==x):=rfl;simp only[aU,bc,bw,bQ,bN,mD,b4,bK];generalize(aW (es.getD j .J)==x)=bJ;cases bJ<;>rfl
  .obtain rfl:j=es.length:=al;exact jo
 .cases h
def rC(es:List AV)(x:Int):Option Nat:=bx (CR x es) es.length 0
def Ky:List AV->a6 AV
 |[.ab (.agg [.int .i64,.str,.slice (.agg [.str,.int .i64]),.str,.slice (.agg [.str,.str]),.slice (.int .u8),.int .i64,.int .i64,.int .i64,.slice (.agg [.str,.int .i64,.int .i64,.bool])]) es,.fn 74 [.ref [.int .i64 x,.str d,.ab (.int .i64) ae]]]=>.bt (small es.length) (.leaf (.int .i64 (kv (rC es x))))
 |_=>.no
def anL:SumOK prog 68 (aK Ky)/\b5 (aK Ky):=by
 refine iH (K:=[(2,Kx)]) (b:=Kw) (l:=Kx) ZN Tryz.func68 aG aG anK λaj aA k r h=>?_;unfold Ky at h;split at h
 .rename_i es x d ae;obtain⟨aa,ai⟩:=bz h;refine bn (b:=have av:=(bx (CR x es) es.length 0);bif bl (es.length:Int) (0:Int) es.length then bif av.isSome then k (.I ((av.getD 0):Int))else k (.I (-1:Int))else none) ?_;conv=>zeta
  rw[<-ai,e1 aa];show(bif true then bif(rC es x).isSome then k (.int .i64 (((rC es x).getD 0:Nat):Int))else k (.int .i64 (-1))else none)=_;cases rC es x<;>rfl
 .cases h
def anM{j n:Nat}(a7:0<j)(h:j<n)(an:n<=9223372036854775807):i64.wrap ((j:Int)-1)=((j-1:Nat):Int)/\inb ((j-1:Nat):Int) n=true/\decide ((j:Int)>0)=true/\decide (0<j)=true:=by refine⟨?_,ie al al,aS al,aS a7⟩;rw[mL _ al al];omega
def pU(ws:List AV)(d:List UInt8)(on:Bool)(ae fs:List AV)(i:Nat):Int:=bif(bif decide (aW (ae.getD i .J)<0)then true else decide (aW (ae.getD i .J)>=(ws.length:Int)))||(decide (0<i)&&decide (aW (ae.getD i .J)<=aW (fs.getD (i-1) .J)))then 3 else bif !(cC (bm (ws.getD (aW (ae.getD i .J)).toNat .J))==d)then 5 else bif(!(dC (ws.getD (aW (ae.getD i .J)).toNat .J)==0))||(!(gl (ws.getD (aW (ae.getD i .J)).toNat .J)==on))then 8 else 0
def Ao(ws:List AV)(d:List UInt8)(on:Bool)(ae fs:List AV)(i:Nat):Bool:=pU ws d on ae fs i !=0
noncomputable def ZP:Env:={pure:=[(26,aK Am),(27,aK rv),(29,aK pQ),(39,aK o9),(68,aK Ky),(72,aK Al)]}
def ZQ:aM prog ZP:=aM.br (aM.br (aM.br (aM.br (aM.br (aM.br bV QC) anL) rz) ry) uU) QD
noncomputable def ZR:Code:=((Tryz.f40.body.map c7).getD []).headD .skip
def ZS:List AV->List (Option Row)->a6 cy
 |[.bool on,.ptr 1 0,.int .i64 z,.ptr 3 0,.int .i64 h4,.ab (.agg [.str,.int .i64,.int .i64,.bool]) ws,.ab (.int .i64) ae,.int .i64 n,.int .i64 i],[some (.box false [.int .i64 x,.str d,.ab (.int .i64) fs]),some (.box false [.int .i64 0,.int .i64 0])]=>
  .bt (bl n i ae.length&&(Nat.beq fs.length ae.length&&(small ws.length&&ws.all eh))) (h8 (Ao ws d on ae fs) ae.length
   (λq=>.leaf (.ret,[.bool on,.ptr 1 0,.int .i64 0,.ptr 3 0,.int .i64 h4,.ab fW ws,.ab gm ae,.int .i64 ae.length,.int .i64 (q:Nat)],[some (.box false [.int .i64 x,.str d,.ab gm fs]),some (.box false [.int .i64 (pU ws d on ae fs q),.int .i64 (q:Nat)])]))
   (.leaf (.exit 0,[.bool on,.ptr 1 0,.int .i64 z,.ptr 3 0,.int .i64 h4,.ab fW ws,.ab gm ae,.int .i64 ae.length,.int .i64 ae.length],[some (.box false [.int .i64 x,.str d,.ab gm fs]),some (.box false [.int .i64 0,.int .i64 0])])) i.toNat)
 |_,_=>.no
def Kz:Ev.Loop:=⟨{len:=111,dr:=[2,4,6,7,9,10,45,46,47],rows:=[1,3]},dP ZS⟩
def anN(vs:List AV)(_:List (Option Row)):Nat:=match vs with
 |[_,_,_,_,_,_,_,.int _ n,.int _ i]=>(n-i).toNat
 |_=>0
def anO:dj prog ZP [(11,Kz)] ZR Kz:=by
 refine ed ZQ.dX rfl (ch.nil aG) anN (λaj vs rs k r h=>?_);unfold ZS at h;split at h
 .rename_i on z h4 ws ae n i x d fs;obtain⟨aa,ai⟩:=bz h;simp only[ba]at aa;obtain⟨aa,cG,hw,cn⟩:=aa;have cG:fs.length=ae.length:=cH cG;obtain⟨rfl,an,j,rfl,aP⟩:=eA aa;rw[bK]at ai;refine bn (b:=have aO:=(aW (ae.getD j .J));have bd:=(Sh.agg [.str,.int .i64,.int .i64,.bool]);have bk:=(ae.length:Int);have bI:=(ws.getD aO.toNat .J);have cd:=(j:Int);have cJ:=(Sh.int .i64);have az:=[AV.bool on,.ptr 1 0,.I 0,.ptr 3 0,.I h4,.ab bd ws,.ab cJ ae,.I bk,.I cd];have aF:=(Row.box false [.I x,.str d,.ab cJ fs]);have aZ:=[some aF,some (.box false [.I 3,.I cd])];have bF:=[some aF,some (.box false [.I 0,.I 0])];have b3:=[some aF,some (.box false [.I 8,.I cd])];have fM:=inb aO ws.length;have ft:=(i64.wrap (cd-(1:Int)));have gC:=(i64.wrap (cd+(1:Int)));have aI:=(bx (Ao ws d on ae fs) ae.length gC.toNat);have dD:=(aI.getD 0);have av:=bif fM then bif ee (bm bI).length then bif !cC (bm bI)==d then k .ret az [some aF,some (.box false [.I 5,.I cd])]else bif fM then bif(dC bI)!=0 then k .ret az b3 else bif fM then bif !(gl bI)==on then k .ret az b3 else bif decide ((bk-i64.wrap (cd+(1:Int))).toNat<(bk-cd).toNat)then bif bl bk gC ae.length&&(fs.length.beq ae.length&&(small ws.length&&ws.all eh))then bif aI.isSome then k .ret [.bool on,.ptr 1 0,.I 0,.ptr 3 0,.I h4,.ab bd ws,.ab cJ ae,.I bk,.I (dD:Int)] [some aF,some (.box false [.I (pU ws d on ae fs dD),.I (dD:Int)])]else k (.exit 0) [.bool on,.ptr 1 0,.I z,.ptr 3 0,.I h4,.ab bd ws,.ab cJ ae,.I bk,.I bk] bF else none else none else none else none else none else none;bif decide (cd<bk)then bif inb cd ae.length then bif decide (aO<(0:Int))then k .ret az aZ else bif decide (aO>=(ws.length:Int))then k .ret az aZ else bif decide (cd>(0:Int))then bif inb ft fs.length then bif decide (aO<=(aW (fs.getD ft.toNat .J)))then k .ret az aZ else av else none else av else none else k (.exit 0) [.bool on,.ptr 1 0,.I z,.ptr 3 0,.I h4,.ab bd ws,.ab cJ ae,.I bk,.I cd] bF) ?_;conv=>zeta
  rw[<-ai];by_cases aL:j<ae.length
  .obtain⟨aU,bc,bw,bQ,bN⟩:=ew aL an;rw[j2 _ _ _ _ _ aL];have CO:Ao ws d on ae fs j=(pU ws d on ae fs j !=0):=rfl;have x6:pU ws d on ae fs j=bif(bif decide (aW (ae.getD j .J)<0)then true else decide (aW (ae.getD j .J)>=(ws.length:Int)))||(decide (0<j)&&decide (aW (ae.getD j .J)<=aW (fs.getD (j-1) .J)))then 3 else bif !(cC (bm (ws.getD (aW (ae.getD j .J)).toNat .J))==d)then 5 else bif(!(dC (ws.getD (aW (ae.getD j .J)).toNat .J)==0))||(!(gl (ws.getD (aW (ae.getD j .J)).toNat .J)==on))then 8 else 0:=rfl;have ZT:fs.length.beq ae.length=true:=by rw[cG];exact b9 _
   have anP:∀t:Int,¬t<0->¬t>=(ws.length:Int)->ee (bm (ws.getD t.toNat .J)).length=true:=λt af ao=>jg cn al;generalize aW (ae.getD j .J)=t at*;by_cases af:t<0
   .simp only[aU,bc,CO,x6,aS af,b4,DA];rfl
   .by_cases ao:t>=(ws.length:Int)
    .simp only[aU,bc,CO,x6,cZ af,aS ao,b4,cU,DA];rfl
    .have i1:inb t ws.length=true:=ie al al;have fY:=anP t af ao;by_cases a7:0<j
     .obtain⟨w,i2,cF,d'⟩:=anM a7 (by omega:j<fs.length) al;simp only[bne,aU,bc,bw,bQ,bN,CO,x6,cZ af,cZ ao,i1,fY,w,i2,cF,d',ZT,hw,cn,b4,cU,bK,jz,nk,qS];generalize decide (t<=aW (fs.getD (j-1) .J))=bJ;generalize(cC (bm (ws.getD t.toNat .J))==d)=a2;generalize(dC (ws.getD t.toNat .J)==0)=a3;generalize(gl (ws.getD t.toNat .J)==on)=a4
      first
       |(cases bJ<;>cases a2<;>cases a3<;>cases a4<;>rfl)
       |skip
     .have cF:decide ((j:Int)>0)=false:=cZ al;have d':decide (0<j)=false:=cZ a7;simp only[bne,aU,bc,bw,bQ,bN,CO,x6,cZ af,cZ ao,i1,fY,cF,d',ZT,hw,cn,b4,cU,bK,jz,nk,A7,qS];generalize(cC (bm (ws.getD t.toNat .J))==d)=a2;generalize(dC (ws.getD t.toNat .J)==0)=a3;generalize(gl (ws.getD t.toNat .J)==on)=a4
      first
       |(cases a2<;>cases a3<;>cases a4<;>rfl)
       |skip
  .obtain rfl:j=ae.length:=al;exact jo
 .cases h
def ya(ws:List AV)(d:List UInt8)(on:Bool)(ae:List AV):Option Nat:=bx (Ao ws d on ae ae) ae.length 0
def eo(es:List AV)(nx x:Int)(d:List UInt8)(ae:List AV)(on:Bool):Int×(Int×Int):=bif(iX es nx).1 !=0 then(0,iX es nx)else match rC es x with
 |none=>(0,(6,-3))
 |some q=>bif(ae.length:Int)==0||decide ((ae.length:Int)>((bL (es.getD q .J)).length:Int))then(0,(2,-4))else match ya (bL (es.getD q .J)) d on ae with
  |some i=>(0,(pU (bL (es.getD q .J)) d on ae ae i,(i:Nat)))
  |none=>((q:Nat),(0,0))
def Ap:List AV->a6 AV
 |[.agg [.ab (.agg [.int .i64,.str,.slice (.agg [.str,.int .i64]),.str,.slice (.agg [.str,.str]),.slice (.int .u8),.int .i64,.int .i64,.int .i64,.slice (.agg [.str,.int .i64,.int .i64,.bool])]) es,.int .i64 nx],.agg [.int .i64 x,.str d,.ab (.int .i64) ae],.bool on]=>.bt (small es.length&&(es.all mc&&(es.all hX&&small ae.length))) (.leaf (.tup [.int .i64 (eo es nx x d ae on).1,.agg [.int .i64 (eo es nx x d ae on).2.1,.int .i64 (eo es nx x d ae on).2.2]]))
 |_=>.no
def ZU:SumOK prog 40 (aK Ap)/\b5 (aK Ap):=by
 refine iH (K:=[(11,Kz)]) (b:=ZR) (l:=Kz) ZQ Tryz.func40 aG aG anO λaj aA k r h=>?_;unfold Ap at h;split at h
 .rename_i es nx x d ae on;obtain⟨aa,ai⟩:=bz h;simp only[ba]at aa;refine bn (b:=have aF:=(AV.tup [AV.int i64 0,AV.agg [AV.int i64 2,AV.int i64 (-4:Int)]]);have aI:=(kv (rC es x));have av:=(bL (es.getD aI.toNat .J));have az:=(bx (Ao av d on ae ae) ae.length 0);have aO:=(ae.length:Int);bif small es.length&&es.all mc then bif(iX es nx).fst !=0 then k (.tup [.I 0,.agg [.I (iX es nx).fst,.I (iX es nx).snd]])else bif small es.length then bif decide (kv (rC es x)<(0:Int))then k (.tup [.I 0,.agg [.I 6,.I (-3:Int)]])else bif inb aI es.length then bif aO==0 then k aF else bif decide (aO>(av.length:Int))then k aF else bif bl aO (0:Int) ae.length&&(ae.length.beq ae.length&&(small av.length&&av.all eh))then bif az.isSome then k (.tup [.I 0,.agg [.I (pU av d on ae ae (az.getD 0)),.I ((az.getD 0):Int)]])else k (.tup [.I aI,.agg [.I 0,.I 0]])else none else none else none else none) ?_;conv=>zeta
  obtain⟨af,ao,a1,ca⟩:=aa;rw[<-ai,af,ao];cases ar:(iX es nx).1 !=0
  .cases hi:rC es x with
   |none=>
    have ex:eo es nx x d ae on=(0,(6,-3)):=by unfold eo;rw[ar,hi];rfl
    rw[ex];rfl
   |some q=>
    have ex:eo es nx x d ae on=bif(ae.length:Int)==0||decide ((ae.length:Int)>((bL (es.getD q .J)).length:Int))then(0,(2,-4))else match ya (bL (es.getD q .J)) d on ae with
     |some i=>(0,(pU (bL (es.getD q .J)) d on ae ae i,((i:Nat):Int)))
     |none=>(((q:Nat):Int),(0,0)):=by unfold eo;rw[ar,hi];rfl
    rw[ex];have aH:q<es.length:=(sA hi).2.1;have b2:decide (((q:Nat):Int)<0)=false:=cZ al;have bX:inb ((q:Nat):Int) es.length=true:=ie al al;have hw:=jg a1 aH;unfold hX at hw;have c3:(bl (ae.length:Int) 0 ae.length&&(ae.length.beq ae.length&&(small (bL (es.getD q .J)).length&&(bL (es.getD q .J)).all eh)))=true:=aV (e1 ca) (aV (b9 _) hw);show(bif true&&true then bif false then _ else bif true then bif decide (((q:Nat):Int)<0)then _ else bif inb ((q:Nat):Int) es.length then bif(ae.length:Int)==0 then _ else bif decide ((ae.length:Int)>((bL (es.getD (Int.toNat (q:Int)) .J)).length:Int))then _ else bif bl (ae.length:Int) 0 ae.length&&(ae.length.beq ae.length&&(small (bL (es.getD (Int.toNat (q:Int)) .J)).length&&(bL (es.getD (Int.toNat (q:Int)) .J)).all eh))then bif(ya (bL (es.getD (Int.toNat (q:Int)) .J)) d on ae).isSome then _ else _ else none else none else none else none)=_;rw[b2,bX,bK,c3];cases(ae.length:Int)==0
    .cases decide ((ae.length:Int)>((bL (es.getD q .J)).length:Int))
     .cases cI:ya (bL (es.getD q .J)) d on ae with
      |none=>rfl
      |some i=>show k (.tup [.int .i64 0,.agg [.int .i64 (pU (bL (es.getD (Int.toNat (q:Int)) .J)) d on ae ae ((ya (bL (es.getD (Int.toNat (q:Int)) .J)) d on ae).getD 0)),.int .i64 (((ya (bL (es.getD (Int.toNat (q:Int)) .J)) d on ae).getD 0:Nat):Int)]])=_;rw[bK,cI];rfl
     .rfl
    .rfl
  .have ex:eo es nx x d ae on=(0,iX es nx):=by unfold eo;rw[ar];rfl
   rw[ex];rfl
 .cases h
def KA:shOf prog depth 104=.agg [.int .i64,.str]:=aG
def QI{ja sv:Sh}{k:AV}{ms:List AV}(ai:cb ja k=true)(ar:cb sv v=true)(h:jb ja sv ms=true):jb ja sv (gG k v ms)=true:=amG ai ar h
def jh(x:Int)(d:List UInt8):AV:=.agg [.int .i64 x,.str d]
def mF(k:AV)(us:List AV):Bool:=bif dq k us then((gj k us).cells.headD .J).toBool else false
def ht(d:List UInt8)(ms:List AV):Int:=bif dq (.str d) ms then((gj (.str d) ms).cells.headD .J).toInt else 0
def nb(x:Int)(st:List AV×List AV)(w:AV):List AV×List AV:=bif gl w then(bif mF (jh x (cC (bm w))) st.2 then st else(gG (.str (cC (bm w))) (.int .i64 (i64.wrap (ht (cC (bm w)) st.1+1))) st.1,gG (jh x (cC (bm w))) (.bool true) st.2))else st
def uZ(st:List AV×List AV)(e:AV):List AV×List AV:=(bL e).foldl (nb (aW e)) st
def hM(es:List AV):List AV×List AV:=es.foldl uZ ([],[])
def fX(st:List AV×List AV):Bool:=jb .str (.int .i64) st.1&&jb (.agg [.int .i64,.str]) .bool st.2
def ZV(x:Int){st:List AV×List AV}(h:fX st=true)(w:AV):fX (nb x st w)=true:=by
 unfold fX at h;rw[ba]at h;unfold nb;cases gl w
 .exact aV h.1 h.2
 .cases mF (jh x (cC (bm w))) st.2
  .exact aV (QI rfl rfl h.1) (QI rfl rfl h.2)
  .exact aV h.1 h.2
def QJ(x:Int):∀(ws:List AV){st:List AV×List AV},fX st=true->fX (ws.foldl (nb x) st)=true
 |[],_,h=>h
 |w::ws,_,h=>QJ x ws (ZV x h w)
def tP{β:Type}(f:β->AV->β)(b:β)(es:List AV)(j:Nat)(h:j<es.length):(es.drop j).foldl f b=(es.drop (j+1)).foldl f (f b (es.getD j .J)):=by rw[rP h,jw,List.getD,fC h];rfl
noncomputable def QK:Env:={pure:=[(72,aK Al)]}
def QL:aM prog QK:=aM.br bV QC
noncomputable def ZW:Code:=((Tryz.f37.body.map c7).getD []).headD .skip
noncomputable def ZX:Code:=((Tryz.f37.body.map c7).getD []).tail.headD .skip
def ZY:List AV->List (Option Row)->a6 cy
 |[.own 64,.own 65,.ab (.agg [.int .i64,.str,.slice (.agg [.str,.int .i64]),.str,.slice (.agg [.str,.str]),.slice (.int .u8),.int .i64,.int .i64,.int .i64,.slice (.agg [.str,.int .i64,.int .i64,.bool])]) es,.int .i64 m,.int .i64 j,.ptr 258 0,.ab (.agg [.str,.int .i64,.int .i64,.bool]) ws,.int .i64 n,.int .i64 i],[some (.box false [.ct ms]),some (.box false [.ct us]),some (.box false [.int .i64 x,.str f,.ab (.agg [.str,.int .i64]) ae,.str d,.ab (.agg [.str,.str]) aC,.ab (.int .u8) bs,.int .i64 b0,.int .i64 bS,.int .i64 n3,.ab (.agg [.str,.int .i64,.int .i64,.bool]) fi])]=>.bt (bl n i ws.length&&(ws.all eh&&fX (ms,us))) (.leaf (.exit 2,[.own 64,.own 65,.ab db es,.int .i64 m,.int .i64 j,.ptr 258 0,.ab fW ws,.int .i64 n,.int .i64 ws.length],[some (.box false [.ct ((ws.drop i.toNat).foldl (nb x) (ms,us)).1]),some (.box false [.ct ((ws.drop i.toNat).foldl (nb x) (ms,us)).2]),some (.box false [.int .i64 x,.str f,.ab eR ae,.str d,.ab fb aC,.ab (.int .u8) bs,.int .i64 b0,.int .i64 bS,.int .i64 n3,.ab fW fi])]))
 |_,_=>.no
def FN:Ev.Loop:=⟨{len:=53,dr:=[4,5,14,15,16,7,21,22,23],rows:=[64,65,258]},dP ZY⟩
def ZZ:List AV->List (Option Row)->a6 cy
 |[.own 64,.own 65,.ab (.agg [.int .i64,.str,.slice (.agg [.str,.int .i64]),.str,.slice (.agg [.str,.str]),.slice (.int .u8),.int .i64,.int .i64,.int .i64,.slice (.agg [.str,.int .i64,.int .i64,.bool])]) es,.int .i64 n,.int .i64 i],[some (.box false [.ct ms]),some (.box false [.ct us])]=>.bt (bl n i es.length&&(es.all hX&&fX (ms,us))) (.leaf (.exit 0,[.own 64,.own 65,.ab db es,.int .i64 n,.int .i64 es.length],[some (.box false [.ct ((es.drop i.toNat).foldl uZ (ms,us)).1]),some (.box false [.ct ((es.drop i.toNat).foldl uZ (ms,us)).2])]))
 |_,_=>.no
def FO:Ev.Loop:=⟨{len:=53,dr:=[4,5,14,15,16],rows:=[64,65]},dP ZZ⟩
def anQ(vs:List AV)(_:List (Option Row)):Nat:=match vs with
 |[_,_,_,_,_,_,_,.int _ n,.int _ i]=>(n-i).toNat
 |_=>0
def Z0:dj prog QK [(3,FO),(6,FN)] ZX FN:=by
 refine ed QL.dX rfl (ch.nil aG) anQ (λaj vs rs k r h=>?_);unfold ZY at h;split at h
 .rename_i es m rD ws n i ms us x f ae d aC bs b0 bS n3 fi;obtain⟨aa,ai⟩:=bz h;simp only[ba]at aa;obtain⟨aa,cn,hm⟩:=aa;obtain⟨rfl,an,j,rfl,aP⟩:=eA aa;rw[bK]at ai;refine bn (b:=have b3:=jb (shOf prog depth 9) (shOf prog depth 3) ms;have cd:=(Sh.agg [.str,.int .i64,.int .i64,.bool]);have aF:=(Row.box false [AV.int i64 x,AV.str f,AV.ab (Sh.agg [Sh.str,Sh.int i64]) ae,AV.str d,AV.ab (Sh.agg [Sh.str,Sh.str]) aC,AV.ab (Sh.int u8) bs,AV.int i64 b0,AV.int i64 bS,AV.int i64 n3,AV.ab cd fi]);have bF:=(Sh.agg [Sh.int i64,Sh.str,(Sh.agg [Sh.str,Sh.int i64]).slice,Sh.str,(Sh.agg [Sh.str,Sh.str]).slice,(Sh.int u8).slice,Sh.int i64,Sh.int i64,Sh.int i64,cd.slice]);have cJ:=(ws.length:Int);have az:=[AV.own 64,.own 65,.ab bF es,.I m,.I rD,.ptr 258 0,.ab cd ws,.I cJ,.I cJ];have bI:=decide ((cJ-i64.wrap ((j:Int)+(1:Int))).toNat<(cJ-(j:Int)).toNat);have fM:=(i64.wrap ((j:Int)+(1:Int)));have bd:=(List.drop fM.toNat ws);have ft:=jb (shOf prog depth 104) (shOf prog depth 4) us;have gC:=(Ex.exit 2);have fQ:=(List.foldl (nb x) (ms,us) bd);have aI:=bif bI then bif bl cJ fM ws.length&&(ws.all eh&&fX (ms,us))then k gC az [some (.box false [.ct fQ.fst]),some (.box false [.ct fQ.snd]),some aF]else none else none;have hN:=(ws.getD j .J);have aO:=(cC (bm hN));have dD:=(AV.agg [.I x,.str aO]);have aZ:=(gG (AV.str aO) (AV.int i64 (i64.wrap ((aW (gj (AV.str aO) ms))+(1:Int)))) ms,gG dD (AV.bool true) us);have bk:=(gG (AV.str aO) (AV.int i64 (i64.wrap ((0:Int)+(1:Int)))) ms,gG dD (AV.bool true) us);have gO:=(List.foldl (nb x) aZ bd);have gu:=(List.foldl (nb x) bk bd);have av:=bif ft then bif b3 then bif dq (.str aO) ms then bif b3 then bif bI then bif bl cJ fM ws.length&&(ws.all eh&&fX aZ)then k gC az [some (.box false [.ct gO.fst]),some (.box false [.ct gO.snd]),some aF]else none else none else none else bif b3 then bif bI then bif bl cJ fM ws.length&&(ws.all eh&&fX bk)then k gC az [some (.box false [.ct gu.fst]),some (.box false [.ct gu.snd]),some aF]else none else none else none else none else none;bif decide ((j:Int)<cJ)then bif inb (j:Int) ws.length then bif ee (bm hN).length then bif(gl hN)then bif ft then bif dq dD us then bif !((gj dD us).cells.headD .J).toBool then av else aI else av else none else aI else none else none else k gC [.own 64,.own 65,.ab bF es,.I m,.I rD,.ptr 258 0,.ab cd ws,.I cJ,.I (j:Int)] [some (.box false [.ct ms]),some (.box false [.ct us]),some aF]) ?_;conv=>zeta
  rw[<-ai];by_cases aL:j<ws.length
  .obtain⟨aU,bc,bw,bQ,bN⟩:=ew aL an;have fY:ee (bm (ws.getD j .J)).length=true:=jg cn aL;have j9:=ZV x hm (ws.getD j .J);have nJ:=hm;unfold fX at nJ;rw[ba]at nJ;obtain⟨m1,m2⟩:=nJ;simp only at m1 m2;have fA:nb x (ms,us) (ws.getD j .J)=bif gl (ws.getD j .J)then(bif(bif dq (.agg [.int .i64 x,.str (cC (bm (ws.getD j .J)))]) us then((gj (.agg [.int .i64 x,.str (cC (bm (ws.getD j .J)))]) us).cells.headD .J).toBool else false)then(ms,us)else(gG (.str (cC (bm (ws.getD j .J)))) (.int .i64 (i64.wrap ((bif dq (.str (cC (bm (ws.getD j .J)))) ms then aW (gj (.str (cC (bm (ws.getD j .J)))) ms)else 0)+1))) ms,gG (.agg [.int .i64 x,.str (cC (bm (ws.getD j .J)))]) (.bool true) us))else(ms,us):=rfl;rw[tP _ _ _ _ aL,fA];rw[fA]at j9;simp only[aU,bc,bw,bQ,bN,fY,m1,m2,cn,CH,J9,J3,KA,b4,bK,jz,nk];generalize gl (ws.getD j .J)=eO at*;generalize dq (.agg [.int .i64 x,.str (cC (bm (ws.getD j .J)))]) us=eW at*;generalize((gj (.agg [.int .i64 x,.str (cC (bm (ws.getD j .J)))]) us).cells.headD .J).toBool=kq at*;generalize dq (.str (cC (bm (ws.getD j .J)))) ms=IG at*;cases eO<;>cases eW<;>cases kq<;>cases IG<;>first
    |(simp only[b4,cU,lY,pq]at j9⊢;simp only[j9,b4];rfl)
    |skip
  .obtain rfl:j=ws.length:=al;exact oQ
 .cases h
def anR(vs:List AV)(_:List (Option Row)):Nat:=match vs with
 |[_,_,_,.int _ n,.int _ i]=>(n-i).toNat
 |_=>0
def anS:dj prog QK [(3,FO),(6,FN)] ZW FO:=by
 refine ed QL.dX rfl (ch.one aG aG Z0) anR (λaj vs rs k r h=>?_);unfold ZZ at h;split at h
 .rename_i es n i ms us;obtain⟨aa,ai⟩:=bz h;simp only[ba]at aa;obtain⟨aa,cn,hm⟩:=aa;obtain⟨rfl,an,j,rfl,aP⟩:=eA aa;rw[bK]at ai;refine bn (b:=have az:=(Sh.agg [Sh.int i64,Sh.str,(Sh.agg [Sh.str,Sh.int i64]).slice,Sh.str,(Sh.agg [Sh.str,Sh.str]).slice,(Sh.int u8).slice,Sh.int i64,Sh.int i64,Sh.int i64,(Sh.agg [Sh.str,Sh.int i64,Sh.int i64,Sh.bool]).slice]);have aI:=(es.length:Int);have aO:=(bL (es.getD j .J));have av:=(List.foldl (nb (aW (es.getD j .J))) (ms,us) (List.drop 0 aO));have aZ:=((j:Int)+(1:Int));have aF:=(List.foldl uZ (av.fst,av.snd) (List.drop (i64.wrap aZ).toNat es));bif decide ((j:Int)<aI)then bif inb (j:Int) es.length then bif bl (aO.length:Int) (0:Int) aO.length&&(aO.all eh&&fX (ms,us))then bif decide ((aI-i64.wrap aZ).toNat<(aI-(j:Int)).toNat)then bif bl aI (i64.wrap aZ) es.length&&(es.all hX&&fX (av.fst,av.snd))then k (.exit 0) [.own 64,.own 65,.ab az es,.I aI,.I aI] [some (.box false [.ct aF.fst]),some (.box false [.ct aF.snd])]else none else none else none else none else k (.exit 0) [.own 64,.own 65,.ab az es,.I aI,.I (j:Int)] [some (.box false [.ct ms]),some (.box false [.ct us])]) ?_;conv=>zeta
  rw[<-ai];by_cases aL:j<es.length
  .obtain⟨aU,bc,bw,bQ,bN⟩:=ew aL an;have hw:=jg cn aL;unfold hX at hw;rw[ba]at hw;have j9:fX (uZ (ms,us) (es.getD j .J))=true:=QJ _ _ hm;have mD:(bl ((bL (es.getD j .J)).length:Int) 0 (bL (es.getD j .J)).length&&((bL (es.getD j .J)).all eh&&fX (ms,us)))=true:=aV (e1 hw.1) (aV hw.2 hm);have Aq:fX ((List.foldl (nb (aW (es.getD j .J))) (ms,us) (List.drop 0 (bL (es.getD j .J)))).fst,(List.foldl (nb (aW (es.getD j .J))) (ms,us) (List.drop 0 (bL (es.getD j .J)))).snd)=true:=j9;rw[tP _ _ _ _ aL];simp only[aU,bc,bw,bQ,bN,mD,Aq,cn,b4,bK,jz];rfl
  .obtain rfl:j=es.length:=al;exact oQ
 .cases h
def wv:List AV->List Row->a6 hf
 |[.agg [.ab (.agg [.int .i64,.str,.slice (.agg [.str,.int .i64]),.str,.slice (.agg [.str,.str]),.slice (.int .u8),.int .i64,.int .i64,.int .i64,.slice (.agg [.str,.int .i64,.int .i64,.bool])]) es,.int .i64 nx]],[]=>.bt (small es.length&&es.all hX) (.leaf (.tup [.own bY,.own (bY+1)],[],[.box false [.ct (hM es).1],.box false [.ct (hM es).2]]))
 |_,_=>.no
def Z1:fH prog 37 (cz wv)/\hA (cz wv):=by
 refine⟨akT (K:=[(3,FO),(6,FN)]) (bs:=[ZW,ZX]) (H:=[]) QL Tryz.func37 aG (λb ag=>?_) λaj aA rows k r h=>?_,kQ wv⟩
 .simp only[gv,mh,mi]at ag;rcases ag with rfl|rfl
  .exact⟨FO,aG,anS⟩
  .exact⟨FN,aG,Z0⟩
 change(wv aA rows).run _=some r at h;unfold wv at h;split at h
 .rename_i es nx;obtain⟨aa,ai⟩:=bz h;simp only[ba]at aa;refine⟨bb,λrows' an=>?_⟩;obtain rfl:rows'=[]:=by cases rows' with|nil=>rfl|cons=>exact an.elim
  refine bn (b:=have av:=(List.foldl uZ ([],[]) (List.drop 0 es));bif bl (es.length:Int) (0:Int) es.length&&(es.all hX&&fX ([],[]))then k (.tup [.own 2251799813685248,.own 2251799813685249]) [] [.box false [.ct av.fst],.box false [.ct av.snd]]else none) ?_;conv=>zeta
  have FK:(bl (es.length:Int) 0 es.length&&(es.all hX&&fX ([],[])))=true:=aV (e1 aa.1) (aV aa.2 rfl);refine aT (a' FK) ?_;rw[<-ai];rfl
 .cases h
def Z2(w:AV):AV:=.agg [.str (bm w),.int .i64 (iw w),.int .i64 (dC w),.bool true]
def rE(ws:List AV)(t:AV):List AV:=ws.set (aW t).toNat (Z2 (ws.getD (aW t).toNat .J))
def anT(ws:List AV)(t:AV):(rE ws t).length=ws.length:=oJ
def sJ(m:Nat)(t:AV):Bool:=inb (aW t) m
noncomputable def Z3(f:Nat):Env:={pure:=[(27,aK rv),(29,aK pQ),(39,aK o9),(40,aK Ap)],opens:=[(37,cz wv),(41,cz (x' f))],hole:=true}
def g10(f:Nat):aM prog (Z3 f):=aM.flags (aq:={pure:=[(27,aK rv),(29,aK pQ),(39,aK o9),(40,aK Ap)],opens:=[(37,cz wv),(41,cz (x' f))]}) (aM.br (aM.br (aM.br (aM.br (aM.iS (aM.iS bV (ZL f)) Z1) ZU) rz) ry) uU)
noncomputable def Z4:Code:=((Tryz.f10.body.map c7).getD []).headD .skip
def Z5:List AV->List (Option Row)->a6 cy
 |[.ptr 0 0,.ptr 1 0,.ptr 2 0,.ptr 3 0,.int .i64 h4,.ab (.int .i64) ae,.int .i64 n,.int .i64 i],[some (.box false [.own 9999,.int .i64 nx]),some (.box false [.int .i64 x,.str d,.ab (.int .i64) fs]),some (.box false [.bf s,.int .i64 0]),some (.box false [.int .i64 0,.int .i64 0]),some (.cj false (.agg [.int .i64,.str,.slice (.agg [.str,.int .i64]),.str,.slice (.agg [.str,.str]),.slice (.int .u8),.int .i64,.int .i64,.int .i64,.slice (.agg [.str,.int .i64,.int .i64,.bool])]) 89 pre [.int .i64 n0,.str f,.ab (.agg [.str,.int .i64]) rs,.str d0,.ab (.agg [.str,.str]) aC,.ab (.int .u8) bs,.int .i64 b0,.int .i64 bS,.int .i64 n3,.own q] post),some (.arr false (.agg [.str,.int .i64,.int .i64,.bool]) 110 ws none)]=>
  .bt (bl n i ae.length&&(Nat.beq q 9998&&(decide (h4=(pre.length:Nat)/\pre.length+post.length<=1000000)&&ae.all (sJ ws.length))))
   (.leaf (.exit 0,[.ptr 0 0,.ptr 1 0,.ptr 2 0,.ptr 3 0,.int .i64 h4,.ab gm ae,.int .i64 n,.int .i64 ae.length],[some (.box false [.own 9999,.int .i64 nx]),some (.box false [.int .i64 x,.str d,.ab gm fs]),some (.box false [.bf s,.int .i64 0]),some (.box false [.int .i64 0,.int .i64 0]),some (.cj false db 89 pre [.int .i64 n0,.str f,.ab eR rs,.str d0,.ab fb aC,.ab (.int .u8) bs,.int .i64 b0,.int .i64 bS,.int .i64 n3,.own 9998] post),some (.arr false fW 110 ((ae.drop i.toNat).foldl rE ws) none)]))
 |_,_=>.no
def l10:Ev.Loop:=⟨{len:=64,dr:=[2,3,4,5,6,46,47,48],rows:=[0,1,2,3,9999,9998],cells:=[(0,0,9999,89),(9999,9,9998,110)]},dP Z5⟩
def anU(vs:List AV)(_:List (Option Row)):Nat:=match vs with
 |[_,_,_,_,_,_,.int _ n,.int _ i]=>(n-i).toNat
 |_=>0
def anV(f:Nat):dj prog (Z3 f) [(9,l10)] Z4 l10:=by
 refine ed (g10 f).dX rfl (ch.nil aG) anU (λaj vs rs k r h=>?_);unfold Z5 at h;split at h
 .rename_i h4 ae n i nx x d fs s pre n0 f rs d0 aC bs b0 bS n3 q post ws;obtain⟨aa,ai⟩:=bz h;simp only[ba]at aa;obtain⟨aa,aH,aX,cn⟩:=aa;obtain⟨rfl,au⟩:=bH aX;obtain rfl:=cH aH;obtain⟨rfl,an,j,rfl,aP⟩:=eA aa;rw[bK]at ai;refine bn (b:=have aF:=(Sh.agg [.str,.int .i64,.int .i64,.bool]);have av:=(Row.cj false (Sh.agg [Sh.int i64,Sh.str,(Sh.agg [Sh.str,Sh.int i64]).slice,Sh.str,(Sh.agg [Sh.str,Sh.str]).slice,(Sh.int u8).slice,Sh.int i64,Sh.int i64,Sh.int i64,aF.slice]) (89:Nat) pre [AV.int i64 n0,AV.str f,AV.ab (Sh.agg [Sh.str,Sh.int i64]) rs,AV.str d0,AV.ab (Sh.agg [Sh.str,Sh.str]) aC,AV.ab (Sh.int u8) bs,AV.int i64 b0,AV.int i64 bS,AV.int i64 n3,AV.own 9998] post);have aI:=(aW (ae.getD j .J));have aO:=(ae.length:Int);have aZ:=(pre.length:Int);have bd:=(Row.box false [.I x,.str d,.ab (.int .i64) fs]);have bk:=(Row.box false [.I 0,.I 0]);have bF:=(ws.getD aI.toNat .J);have az:=(ws.set aI.toNat (dU aF [.str (bm bF),.I (iw bF),.I (dC bF),.bool true]));have bI:=(Row.box false [.own 9999,.I nx]);have b3:=(Row.box false [.bf s,.I 0]);have cd:=((j:Int)+(1:Int));bif decide ((j:Int)<aO)then bif inb (j:Int) ae.length then bif inb aZ (pre.length+(post.length+1))then bif decide (aZ.toNat=pre.length)then bif inb aI ws.length then bif decide (aI.toNat<ws.length)then bif decide ((aO-i64.wrap cd).toNat<(aO-(j:Int)).toNat)then bif bl aO (i64.wrap cd) ae.length&&(Nat.beq 9998 9998&&(decide (aZ=aZ/\pre.length+post.length<=1000000)&&ae.all (sJ az.length)))then k (.exit 0) [.ptr 0 0,.ptr 1 0,.ptr 2 0,.ptr 3 0,.I aZ,.ab (.int .i64) ae,.I aO,.I aO] [some bI,some bd,some b3,some bk,some av,some (.arr false aF 110 (List.foldl rE az (List.drop (i64.wrap cd).toNat ae)) none)]else none else none else none else none else none else none else none else k (.exit 0) [.ptr 0 0,.ptr 1 0,.ptr 2 0,.ptr 3 0,.I aZ,.ab (.int .i64) ae,.I aO,.I (j:Int)] [some bI,some bd,some b3,some bk,some av,some (.arr false aF 110 ws none)]) ?_;conv=>zeta
  rw[<-ai];by_cases aL:j<ae.length
  .obtain⟨aU,bc,bw,bQ,bN⟩:=ew aL an;have aQ:inb (aW (ae.getD j .J)) ws.length=true:=jg cn aL;obtain⟨t0,t1⟩:=qq aQ;have b2:inb (pre.length:Int) (pre.length+(post.length+1))=true:=ie al al;have c3:decide ((aW (ae.getD j .J)).toNat<ws.length)=true:=aS al;rw[tP _ _ _ _ aL];simp only[aU,bc,bw,bQ,bN,aQ,b2,c3,cn,oJ,b9,b4,bK,decide_true,true_and,aS au,jz];rfl
  .obtain rfl:j=ae.length:=al;exact oQ
 .cases h
def wx(es:List AV)(f:Nat)(ae:List AV):List AV:=(es.take f).map bZ++lj (es.getD f .J) (ae.foldl rE (bL (es.getD f .J)))::(es.drop (f+1)).map bZ
def CS(es:List AV)(nx x:Int)(d:List UInt8)(ae:List AV)(f:Nat):Bool:=(small es.length&&(es.all mc&&(es.all hX&&small ae.length)))&&(es.all fB&&(decide (f<es.length/\es.length<=3/\(eo es nx x d ae false).2.1=0/\(eo es nx x d ae false).1=(f:Nat))&&(ae.all (sJ (bL (es.getD f .J)).length)&&(decide (ht d (hM es).1<2)&&(!mF (jh x d) (hM es).2&&fX (hM es))))))
def QM(f:Nat):List AV->a6 AV
 |[.agg [.ab (.agg [.int .i64,.str,.slice (.agg [.str,.int .i64]),.str,.slice (.agg [.str,.str]),.slice (.int .u8),.int .i64,.int .i64,.int .i64,.slice (.agg [.str,.int .i64,.int .i64,.bool])]) es,.int .i64 nx],.agg [.int .i64 x,.str d,.ab (.int .i64) ae]]=>.bt (CS es nx x d ae f) (.leaf (.tup [.agg [.ab db (wx es f ae),.int .i64 nx],.agg [.int .i64 0,.int .i64 0]]))
 |_=>.no
def Z6(f:Nat):SumOK prog 10 (aK (QM f))/\b5 (aK (QM f)):=by
 refine iH (K:=[(9,l10)]) (b:=Z4) (l:=l10) (g10 f) Tryz.func10 aG aG (anV f) λaj aA k r h=>?_;unfold QM at h;split at h
 .rename_i es nx x d ae;obtain⟨aa,ai⟩:=bz h;refine bn (b:=have aI:=(es.getD f .J);have aZ:=(eo es nx x d ae false);have bd:=(Sh.agg [.str,.int .i64,.int .i64,.bool]);have az:=(Sh.agg [Sh.int i64,Sh.str,(Sh.agg [Sh.str,Sh.int i64]).slice,Sh.str,(Sh.agg [Sh.str,Sh.str]).slice,(Sh.int u8).slice,Sh.int i64,Sh.int i64,Sh.int i64,bd.slice]);have bk:=[AV.ab az [],.I 0];have aO:=(AV.tup [AV.agg bk,AV.agg [AV.int i64 8,AV.int i64 (-5:Int)]]);have bF:=(List.map bZ (List.take f es));have bI:=(AV.agg [.I x,.str d]);have b3:=(List.drop (f+1) es);have av:=bif decide (f<es.length/\es.length<=3)&&es.all fB then bif bl (ae.length:Int) (0:Int) ae.length&&(Nat.beq 9998 9998&&(decide (aZ.fst=(bF.length:Int)/\bF.length+(List.map bZ b3).length<=1000000)&&ae.all (sJ (bL aI).length)))then k (.tup [.agg [.ab az (List.map bZ (List.take f es)++dU db [.I (aW aI),.str (kT aI),.ab (.agg [.str,.int .i64]) (eP aI),.str (fp aI),.ab (.agg [.str,.str]) (ix aI),.ab (.int .u8) (iV aI),.I (fA aI),.I (hK aI),.I (iW aI),.ab bd (List.foldl rE (bL aI) (List.drop 0 ae))]::List.map bZ b3),.I nx],.agg [.I 0,.I 0]])else none else none;have aF:=bif jb (shOf prog depth 104) (shOf prog depth 4) (hM es).snd then bif dq bI (hM es).snd then bif((gj bI (hM es).snd).cells.headD .J).toBool then k aO else av else av else none;bif small es.length&&(es.all mc&&(es.all hX&&small ae.length))then bif aZ.snd.fst !=0 then k (.tup [.agg bk,.agg [.I aZ.snd.fst,.I aZ.snd.snd]])else bif small es.length&&es.all hX then bif jb (shOf prog depth 9) (shOf prog depth 3) (hM es).fst then bif dq (.str d) (hM es).fst then bif decide ((aW (gj (.str d) (hM es).fst))>=(2:Int))then k aO else aF else aF else none else none else none) ?_;conv=>zeta
  rw[<-ai];unfold CS at aa;obtain⟨b2,aa⟩:=jn.1 aa;obtain⟨fY,aa⟩:=jn.1 aa;obtain⟨kD,aa⟩:=jn.1 aa;obtain⟨uq,aa⟩:=jn.1 aa;obtain⟨pR,aa⟩:=jn.1 aa;obtain⟨pS,x5⟩:=jn.1 aa;obtain⟨d1,d2,bJ,a2⟩:=bH kD;have hm:=bH pR;have CT:=b2;simp only[ba]at CT;have bX:((eo es nx x d ae false).2.1 !=0)=false:=by rw[bJ];rfl
  have c3:(small es.length&&es.all hX)=true:=aV CT.1 CT.2.2.1;have m0:=x5;unfold fX at m0;rw[ba]at m0;obtain⟨m1,m2⟩:=m0;have b1:(es.take f).length=f:=yQ;have cS:(es.drop (f+1)).length=es.length-(f+1):=mJ;have uo:(decide (f<es.length/\es.length<=3)&&es.all fB)=true:=aV (aS ⟨d1,d2⟩) fY;have Hu:(bl (ae.length:Int) 0 ae.length&&(Nat.beq 9998 9998&&(decide ((eo es nx x d ae false).1=(((es.take f).map bZ).length:Nat)/\((es.take f).map bZ).length+((es.drop (f+1)).map bZ).length<=1000000)&&ae.all (sJ (bL (es.getD f .J)).length))))=true:=aV (e1 CT.2.2.2) (aV (b9 _) (aV (aS ⟨by rw[g',b1];exact a2,by rw[g',g',b1,cS];omega⟩) uq));rw[jZ]at pS;unfold ht at hm;unfold mF jh at pS;refine aT (a' b2) ?_;refine aT (fP bX) ?_;refine aT (a' c3) ?_;rw[CH,J9,KA,J3];refine aT (a' m1) ?_;cases af:dq (.str d) (hM es).1
  .rw[cU];refine aT (a' m2) ?_;cases ao:dq (.agg [.int .i64 x,.str d]) (hM es).2
   .rw[cU];exact Ht
   .rw[ao,b4]at pS;rw[b4];refine aT (fP pS) ?_;exact Ht
  .rw[af,b4]at hm;rw[b4];refine aT (fP (cZ (Int.not_le.2 hm))) ?_;refine aT (a' m2) ?_;cases ao:dq (.agg [.int .i64 x,.str d]) (hM es).2
   .rw[cU];exact Ht
   .rw[ao,b4]at pS;rw[b4];refine aT (fP pS) ?_;exact Ht
 .cases h
def CU:List AV->a6 AV
 |[.agg [.ab (.agg [.int .i64,.str,.slice (.agg [.str,.int .i64]),.str,.slice (.agg [.str,.str]),.slice (.int .u8),.int .i64,.int .i64,.int .i64,.slice (.agg [.str,.int .i64,.int .i64,.bool])]) es,.int .i64 nx],.agg [.int .i64 x,.str d,.ab (.int .i64) ae]]=>.bt (CS es nx x d ae (eo es nx x d ae false).1.toNat) (.leaf (.tup [.agg [.ab db (wx es (eo es nx x d ae false).1.toNat ae),.int .i64 nx],.agg [.int .i64 0,.int .i64 0]]))
 |_=>.no
def anW:SumOK prog 10 (aK CU)/\b5 (aK CU):=by
 refine⟨SumOK.Jt λaA=>?_,qD _⟩;by_cases hm:∃es nx x d ae,aA=[.agg [.ab db es,.int .i64 nx],.agg [.int .i64 x,.str d,.ab gm ae]]
 .obtain⟨es,nx,x,d,ae,rfl⟩:=hm;exact⟨_,(Z6 (eo es nx x d ae false).1.toNat).1,λaj k r h=>h⟩
 .refine⟨_,(Z6 0).1,λaj k r h=>?_⟩;exfalso;change(CU aA).run k=some r at h;unfold CU at h;split at h
  .exact hm ⟨_,_,_,_,_,rfl⟩
  .cases h
noncomputable def Z7:Env:={pure:=[(32,jc prog mC [] Tryz.f32)]}
def Z8:aM prog Z7:=aM.br bV (inl bV Tryz.func32 aG)
def lk(x:Int)(e:AV):Bool:=decide (iW e>x)
def FP(x:Int)(es:List AV)(i:Nat):Bool:=lk x (es.getD i .J)
def Z9:List AV->List (Option Row)->a6 cy
 |[.ab (.agg [.int .i64,.str,.slice (.agg [.str,.int .i64]),.str,.slice (.agg [.str,.str]),.slice (.int .u8),.int .i64,.int .i64,.int .i64,.slice (.agg [.str,.int .i64,.int .i64,.bool])]) es,.fn 32 [.ref [.int .i64 x]],.int .i64 z,.int .i64 n,.int .i64 i],[]=>
  .bt (bl n i es.length) (h8 (FP x es) es.length (λq=>.leaf (.ret,[.ab db es,.fn 32 [.ref [.int .i64 x]],.int .i64 (q:Nat),.int .i64 es.length,.int .i64 (q:Nat)],[]))
   (.leaf (.exit 0,[.ab db es,.fn 32 [.ref [.int .i64 x]],.int .i64 z,.int .i64 es.length,.int .i64 es.length],[])) i.toNat)
 |_,_=>.no
def KB:Ev.Loop:=⟨{len:=19,dr:=[0,1,4,7,8]},dP Z9⟩
def anX:dj prog Z7 [(2,KB)] Kw KB:=by
 refine ed Z8.dX rfl (ch.nil aG) CG (λaj vs rs k r h=>?_);unfold Z9 at h;split at h
 .rename_i es x z n i;obtain⟨aa,ai⟩:=bz h;obtain⟨rfl,an,j,rfl,aP⟩:=eA aa;rw[bK]at ai;refine bn (b:=have av:=(Sh.agg [Sh.int i64,Sh.str,(Sh.agg [Sh.str,Sh.int i64]).slice,Sh.str,(Sh.agg [Sh.str,Sh.str]).slice,(Sh.int u8).slice,Sh.int i64,Sh.int i64,Sh.int i64,(Sh.agg [Sh.str,Sh.int i64,Sh.int i64,Sh.bool]).slice]);have aF:=(es.length:Int);have aI:=[AV.ref [.I x]];have aO:=(j:Int);have aZ:=(i64.wrap (aO+(1:Int)));have az:=(bx (FP x es) es.length aZ.toNat);bif decide (aO<aF)then bif inb aO es.length then bif decide ((iW (es.getD j .J))>x)then k .ret [.ab av es,.fn 32 aI,.I aO,.I aF,.I aO] []else bif decide ((aF-i64.wrap (aO+(1:Int))).toNat<(aF-aO).toNat)then bif bl aF aZ es.length then bif az.isSome then k .ret [.ab av es,.fn 32 aI,.I ((az.getD 0):Int),.I aF,.I ((az.getD 0):Int)] []else k (.exit 0) [.ab av es,.fn 32 aI,.I z,.I aF,.I aF] []else none else none else none else k (.exit 0) [.ab av es,.fn 32 aI,.I z,.I aF,.I aO] []) ?_;conv=>zeta
  rw[<-ai];by_cases aL:j<es.length
  .obtain⟨aU,bc,bw,bQ,bN⟩:=ew aL an;rw[j2 _ _ _ _ _ aL];have mD:FP x es j=decide (iW (es.getD j .J)>x):=rfl;simp only[aU,bc,bw,bQ,bN,mD,b4,bK];generalize decide (iW (es.getD j .J)>x)=bJ;cases bJ<;>rfl
  .obtain rfl:j=es.length:=al;exact jo
 .cases h
def FQ(es:List AV)(x:Int):Option Nat:=bx (FP x es) es.length 0
def KC:List AV->a6 AV
 |[.ab (.agg [.int .i64,.str,.slice (.agg [.str,.int .i64]),.str,.slice (.agg [.str,.str]),.slice (.int .u8),.int .i64,.int .i64,.int .i64,.slice (.agg [.str,.int .i64,.int .i64,.bool])]) es,.fn 32 [.ref [.int .i64 x]]]=>.bt (small es.length) (.leaf (.int .i64 (xY (FQ es x))))
 |_=>.no
def anY:SumOK prog 68 (aK KC)/\b5 (aK KC):=by
 refine iH (K:=[(2,KB)]) (b:=Kw) (l:=KB) Z8 Tryz.func68 aG aG anX λaj aA k r h=>?_;unfold KC at h;split at h
 .rename_i es x;obtain⟨aa,ai⟩:=bz h;refine bn (b:=have av:=(bx (FP x es) es.length 0);bif bl (es.length:Int) (0:Int) es.length then bif av.isSome then k (.I ((av.getD 0):Int))else k (.I (-1:Int))else none) ?_;conv=>zeta
  rw[<-ai,e1 aa];show(bif true then bif(FQ es x).isSome then k (.int .i64 (((FQ es x).getD 0:Nat):Int))else k (.int .i64 (-1))else none)=_;cases FQ es x<;>rfl
 .cases h
noncomputable def nc(es:List AV):Bool:=@decide (∀e∈es,bZ e=e) (Classical.propDecidable _)
def QN(h:nc es=true):∀e∈es,bZ e=e:=@of_decide_eq_true _ (Classical.propDecidable _) h
def Z'(h:∀e∈es,bZ e=e):nc es=true:=@decide_eq_true _ (Classical.propDecidable _) h
noncomputable def aaa:Env:={pure:=[(32,jc prog mC [] Tryz.f32),(68,aK KC)]}
def aab:aM prog aaa:=aM.br (aM.br bV anY) (inl bV Tryz.func32 aG)
noncomputable def aac:Code:=((Tryz.f30.body.map c7).getD []).headD .skip
def aad:List AV->List (Option Row)->a6 cy
 |[.own p,.fn 32 [.ptr q 0],.int .i64 i,.int .i64 j],[some (.arr false (.agg [.int .i64,.str,.slice (.agg [.str,.int .i64]),.str,.slice (.agg [.str,.str]),.slice (.int .u8),.int .i64,.int .i64,.int .i64,.slice (.agg [.str,.int .i64,.int .i64,.bool])]) e es sp),some (.box false [.int .i64 x])]=>
  .bt (Nat.beq p aE&&(Nat.beq q (aE+1)&&decide (0<=i/\i<j/\j<=es.length/\es.length<=1000000)))
   (.leaf (.exit 0,[.own aE,.fn 32 [.ptr (aE+1) 0],.int .i64 (o8 (lk x) bZ (es.length-j.toNat) es i.toNat j.toNat).2,.int .i64 es.length],[some (.arr false db e (o8 (lk x) bZ (es.length-j.toNat) es i.toNat j.toNat).1 sp),some (.box false [.int .i64 x])]))
 |_,_=>.no
def KD:Ev.Loop:=⟨{len:=42,dr:=[0,1,5,6],rows:=[aE,aE+1]},dP aad⟩
def anZ(vs:List AV)(rs:List (Option Row)):Nat:=match vs,rs with
 |[_,_,_,.int _ j],[some (.arr _ _ _ es _),_]=>((es.length:Int)-j).toNat
 |_,_=>0
def an0:dj prog aaa [(5,KD)] aac KD:=by
 refine ed aab.dX rfl (ch.nil aG) anZ (λaj vs rs k r h=>?_);unfold aad at h;split at h
 .rename_i p q fG et e es sp x;obtain⟨aa,ai⟩:=bz h;simp only[ba]at aa;obtain⟨b2,bX,c3⟩:=aa;obtain⟨c3,mu,c5,uo⟩:=bH c3;obtain rfl:=cH b2;obtain rfl:=cH bX;obtain⟨i,rfl⟩:∃i:Nat,fG=i:=⟨fG.toNat,al⟩;obtain⟨j,rfl⟩:∃j:Nat,et=j:=⟨et.toNat,al⟩;simp only[bK]at ai;refine bn (b:=have av:=(Sh.agg [Sh.int i64,Sh.str,(Sh.agg [Sh.str,Sh.int i64]).slice,Sh.str,(Sh.agg [Sh.str,Sh.str]).slice,(Sh.int u8).slice,Sh.int i64,Sh.int i64,Sh.int i64,(Sh.agg [Sh.str,Sh.int i64,Sh.int i64,Sh.bool]).slice]);have az:=(es.set i (bZ (es.getD j .J)));have aF:=((j:Int)+(1:Int));have aZ:=[AV.ptr 1125899906842625 0];have bd:=(es.length:Int);have bk:=(Row.box false [.I x]);have bF:=(i64.wrap aF);have aO:=(o8 (lk x) bZ (es.length-bF.toNat) es i bF.toNat);have bI:=(aE+1);have b3:=((i:Int)+(1:Int));have aI:=(o8 (lk x) bZ (az.length-bF.toNat) az (i64.wrap b3).toNat bF.toNat);have cd:=(Ex.exit 0);have cJ:=(az.length:Int);bif decide ((j:Int)<bd)then bif inb (j:Int) es.length then bif decide (j<es.length)then bif !decide ((iW (es.getD j .J))>x)then bif inb (i:Int) es.length then bif decide (i<es.length)then bif decide ((cJ-i64.wrap aF).toNat<(bd-(j:Int)).toNat)then bif aE.beq aE&&(bI.beq bI&&decide ((0:Int)<=i64.wrap b3/\i64.wrap b3<i64.wrap aF/\i64.wrap aF<=cJ/\az.length<=1000000))then k cd [.own 1125899906842624,.fn 32 aZ,.I (aI.snd:Int),.I cJ] [some (.arr false av e aI.fst sp),some bk]else none else none else none else none else bif decide ((bd-i64.wrap aF).toNat<(bd-(j:Int)).toNat)then bif aE.beq aE&&(bI.beq bI&&decide ((0:Int)<=(i:Int)/\(i:Int)<i64.wrap aF/\i64.wrap aF<=bd/\es.length<=1000000))then k cd [.own 1125899906842624,.fn 32 aZ,.I (aO.snd:Int),.I bd] [some (.arr false av e aO.fst sp),some bk]else none else none else none else none else k cd [.own 1125899906842624,.fn 32 aZ,.I (i:Int),.I (j:Int)] [some (.arr false av e es sp),some bk]) ?_;conv=>zeta
  rw[<-ai];by_cases aL:j<es.length
  .have w1:i64.wrap ((j:Int)+1)=((j+1:Nat):Int):=by rw[mL _ al al];omega
   have ga:i64.wrap ((i:Int)+1)=((i+1:Nat):Int):=by rw[mL _ al al];omega
   have aX:=Jr (lk x) bZ (es.length-(j+1)) es i j;rw[show es.length-(j+1)+1=es.length-j from al]at aX;rw[aS (by omega:(j:Int)<es.length),ie al al,aS aL,ie (by omega:(0:Int)<=i) (by omega:(i:Int)<es.length),aS (by omega:i<es.length),w1,ga,aX];simp only[b4,bK,oJ];show(bif !lk x (es.getD j .J)then _ else _)=_;cases lk x (es.getD j .J)
   .simp only[b4,cU,pq];exact Tl
   .simp only[b4,cU,lY];exact Tl
  .obtain rfl:j=es.length:=al;rw[cZ al,show es.length-es.length=0 from al];rfl
 .cases h
noncomputable def CV:List AV->List Row->a6 hf
 |[.own p,.fn 32 [.ptr q 0]],[.arr false (.agg [.int .i64,.str,.slice (.agg [.str,.int .i64]),.str,.slice (.agg [.str,.str]),.slice (.int .u8),.int .i64,.int .i64,.int .i64,.slice (.agg [.str,.int .i64,.int .i64,.bool])]) 89 es _,.box false [.int .i64 x]]=>.bt (Nat.beq p aE&&(Nat.beq q (aE+1)&&(decide (es.length<=1000000)&&nc es))) (.leaf (.own bY,[none,some (.box false [.int .i64 x])],[.arr false db 89 (es.filter λe=> !lk x e) none]))
 |_,_=>.no
def an1:fH prog 30 (cz CV)/\hA (cz CV):=by
 refine⟨PD (K:=[(5,KD)]) (H:=[(4,9999,89)]) (b:=aac) (l:=KD) aab Tryz.func30 aG aG an0 λaj aA rows k r h=>?_,kQ _⟩;change(CV aA rows).run _=some r at h;unfold CV at h;split at h
 .rename_i p q es dm x;obtain⟨aa,ai⟩:=bz h;simp only[ba]at aa;obtain⟨b2,bX,c3,mu⟩:=aa;have c3:=bH c3;have u0:∀x∈es,bZ x=x:=QN mu;obtain rfl:=cH b2;obtain rfl:=cH bX;refine⟨bb,λrows' gA=>?_⟩;obtain⟨sp,rfl⟩:∃sp,rows'=[.arr false db 89 es (some sp),.box false [.int .i64 x]]:=by
    match rows',gA with
    |[r1,cQ],⟨⟨sp,af,_⟩,ao,_⟩=>exact⟨sp,by rw[af,ao]⟩
  refine bn (b:=PH (lk x) bZ (lI prog 89) es (FQ es x) (λi j=>Nat.beq aE aE&&(Nat.beq (aE+1) (aE+1)&&decide (0<=i/\i<j/\j<=es.length/\es.length<=1000000))) λl=>k (.own bY) [none,some (.box false [.I x])] [.arr false db 89 l none]) ?_;refine aT (akV rfl c3 u0 λi hi=>aV (b9 _) (aV (b9 _) (aS al))) ?_;exact ai
 .cases h
def QO{aq:Env}{H:List (Nat×Nat×TypeId)}(bR:aM prog aq){f:Nat}{fn:Func}(dW:prog.funcs[f]?=some fn)
  {F:jD}(hF:∀aj aA rows k r,F aj aA rows k=some r->rows.length<=1000000/\∀rows',uJ rows rows'->th prog aq [] H fn aj aA rows' k=some r)(jF:aq.j4=[]:=by rfl):fH prog f F:=
 IH bR (so bR sy) dW (λaj aA rows k r h=>⟨(hF aj aA rows k r h).1,λrows' an=>⟨[],H,λc aa b ag l ay=>(by cases ay),(hF aj aA rows k r h).2 rows' an⟩⟩) jF
def aae{aq:Env}(bR:aM prog aq){f:Nat}{fn:Func}(dW:prog.funcs[f]?=some fn)
  {F:Summ}(hF:∀aj aA k r,F aj aA k=some r->jc prog aq [] fn aj aA k=some r)(jF:aq.j4=[]:=by rfl):SumOK prog f F:=
 E1 bR (so bR sy) dW (λaj aA k r h=>⟨[],λc aa b ag l ay=>(by cases ay),hF aj aA k r h⟩) jF
def Ar(a b:Int):Int:=bif decide (a<b)then -1 else bif decide (a>b)then 1 else 0
def QP:List AV->a6 AV
 |[.int .i64 a,.int .i64 b]=>.leaf (.int .i64 (Ar a b))
 |_=>.no
def an2:SumOK prog 36 (aK QP)/\b5 (aK QP):=by
 refine eJ (aM.br bV (inl bV Tryz.func71 aG)) Tryz.func36 aG λaj aA k r h=>?_;unfold QP at h;split at h
 .rename_i a b;have ai:=h;refine bn (b:=bif a !=a then bif b !=b then k (.I 0)else k (.I (-1:Int))else bif b !=b then k (.I 1)else bif decide (a<b)then k (.I (-1:Int))else bif decide (a>b)then k (.I 1)else k (.I 0)) ?_;rw[<-ai];have aU:(a !=a)=false:=GL a;have bc:(b !=b)=false:=GL b;simp only[aU,bc,cU];show _=k (.int .i64 (bif decide (a<b)then -1 else bif decide (a>b)then 1 else 0));cases decide (a<b)<;>cases decide (a>b)<;>rfl
 .cases h
noncomputable def an3:Env:={pure:=[],vy:=4}
def an4:aM prog an3:=aM.flags bV
def KE(a b:Int):Int:=bif a !=0 then a else b
def KF:List AV->a6 AV
 |[.ab (.int .i64) [.int .i64 a,.int .i64 b]]=>.leaf (.int .i64 (KE a b))
 |_=>.no
def an5:SumOK prog 35 (aK KF)/\b5 (aK KF):=by
 refine⟨aae an4 Tryz.func35 λaj aA k r h=>?_,qD _⟩;change(KF aA).run k=some r at h;unfold KF at h;split at h
 .rename_i a b;refine bn (b:=have av:=([AV.I a].headD .J);have az:=([AV.I b].headD .J);bif av.toInt !=0 then k (.I av.toInt)else bif az.toInt !=0 then k (.I az.toInt)else k (.I 0)) ?_;conv=>zeta
  rw[<-h];show(bif a !=0 then k (.int .i64 a)else bif b !=0 then k (.int .i64 b)else k (.int .i64 0))=k (.int .i64 (bif a !=0 then a else b));cases a !=0
  .cases ag:b !=0
   .rw[bne_eq_false_iff_eq.1 ag];rfl
   .rfl
  .rfl
 .cases h
def iY(x y:AV):Int:=KE (Ar (iW x) (iW y)) (Ar (aW x) (aW y))
def CW:List AV->a6 AV
 |[.agg [.int .i64 bJ,.str _,.ab (.agg [.str,.int .i64]) _,.str _,.ab (.agg [.str,.str]) _,.ab (.int .u8) _,.int .i64 _,.int .i64 _,.int .i64 a2,.ab (.agg [.str,.int .i64,.int .i64,.bool]) _],.agg [.int .i64 eO,.str _,.ab (.agg [.str,.int .i64]) _,.str _,.ab (.agg [.str,.str]) _,.ab (.int .u8) _,.int .i64 _,.int .i64 _,.int .i64 eW,.ab (.agg [.str,.int .i64,.int .i64,.bool]) _]]=>.leaf (.int .i64 (KE (Ar a2 eW) (Ar bJ eO)))
 |_=>.no
def an6:SumOK prog 34 (aK CW)/\b5 (aK CW):=by
 refine⟨PC (aM.br (aM.br bV an2) an5) Tryz.func34 aG λaj aA k r h=>?_,qD _⟩;change(CW aA).run k=some r at h;unfold CW at h;split at h
 .rename_i bJ iI h9 hC gP gb e3 hD a2 gd eO o4 As y3 y4 aaf y6 awn eW awo;refine bn (b:=k (.I (KE (Ar a2 eW) (Ar bJ eO)))) ?_;rw[<-h];rfl
 .cases h
def kU:List AV->List AV
 |[a,b]=>bif decide (iY b a<0)then[b,a]else[a,b]
 |[a,b,c]=>bif decide (iY b a<0)then(bif decide (iY c a<0)then(bif decide (iY c b<0)then[c,b,a]else[b,c,a])else[b,a,c])else(bif decide (iY c b<0)then(bif decide (iY c a<0)then[c,a,b]else[a,c,b])else[a,b,c])
 |l=>l
def KG(a b:AV):kU [a,b]=bif decide (iY b a<0)then[b,a]else[a,b]:=rfl
def QQ(a b c:AV):kU [a,b,c]=bif decide (iY b a<0)then(bif decide (iY c a<0)then(bif decide (iY c b<0)then[c,b,a]else[b,c,a])else[b,a,c])else(bif decide (iY c b<0)then(bif decide (iY c a<0)then[c,a,b]else[a,c,b])else[a,b,c]):=rfl
noncomputable def an7:Env:={pure:=[(34,aK CW)],vy:=5}
def an8:aM prog an7:=aM.flags (aq:={pure:=[(34,aK CW)]}) (aM.br bV an6)
noncomputable def CX:List AV->List Row->a6 hf
 |[.own p,.int .i64 0,.int .i64 n,.fn 34 []],[.arr false (.agg [.int .i64,.str,.slice (.agg [.str,.int .i64]),.str,.slice (.agg [.str,.str]),.slice (.int .u8),.int .i64,.int .i64,.int .i64,.slice (.agg [.str,.int .i64,.int .i64,.bool])]) 89 es _]=>.bt (Nat.beq p aE&&(decide (n=es.length/\es.length<=3)&&nc es)) (.leaf (.tup [],[some (.arr false db 89 (kU es) none)],[]))
 |_,_=>.no
def an9:fH prog 110 (cz CX)/\hA (cz CX):=by
 refine⟨QO (H:=[]) an8 Tryz.func110 λaj aA rows k r h=>?_,kQ _⟩;change(CX aA rows).run _=some r at h;unfold CX at h;split at h
 .rename_i p n es dm;obtain⟨aa,ai⟩:=bz h;simp only[ba]at aa;obtain⟨b2,bX,c3⟩:=aa;obtain⟨rfl,bX⟩:=bH bX;have u0:∀x∈es,bZ x=x:=QN c3;obtain rfl:=cH b2;refine⟨bb,λrows' gA=>?_⟩;obtain⟨sp,rfl⟩:∃sp,rows'=[.arr false db 89 es (some sp)]:=by
    match rows',gA with
    |[r1],⟨⟨sp,af,_⟩,_⟩=>exact⟨sp,by rw[af]⟩
  have fin:∀l,l=kU es->k (.tup []) [some (.arr false db 89 l none)] []=some r:=λl ay=>by rw[ay];exact ai
  match es,bX,u0,fin with
  |[],_,_,fin=>refine bn (b:=k (.tup []) [some (.arr false db 89 [] none)] []) ?_;exact fin _ rfl
  |[a],_,_,fin=>refine bn (b:=k (.tup []) [some (.arr false db 89 [a] none)] []) ?_;exact fin _ rfl
  |[a,b],_,u0,fin=>
   refine bn (b:=bif decide (iY b a<0)then k (.tup []) [some (.arr false db 89 [bZ b,bZ a] none)] []else k (.tup []) [some (.arr false db 89 [a,b] none)] []) ?_;rw[u0 a bb,u0 b bb];cases af:decide (iY b a<0)
   .exact fin _ (by rw[KG,af];rfl)
   .exact fin _ (by rw[KG,af];rfl)
  |[a,b,c],_,u0,fin=>
   refine bn (b:=have av:=(.tup []);bif decide (iY b a<0)then(bif decide (iY c a<0)then(bif decide (iY c b<0)then k av [some (.arr false db 89 [bZ c,bZ b,bZ a] none)] []else k av [some (.arr false db 89 [bZ b,bZ c,bZ a] none)] [])else k av [some (.arr false db 89 [bZ b,bZ a,c] none)] [])else(bif decide (iY c b<0)then(bif decide (iY c a<0)then k av [some (.arr false db 89 [bZ c,bZ a,bZ b] none)] []else k av [some (.arr false db 89 [a,bZ c,bZ b] none)] [])else k av [some (.arr false db 89 [a,b,c] none)] [])) ?_;conv=>zeta
   rw[u0 a bb,u0 b bb,u0 c bb];cases af:decide (iY b a<0)<;>cases ao:decide (iY c a<0)<;>cases a1:decide (iY c b<0)<;>exact fin _ (by rw[QQ,af,ao,a1];rfl)
 .cases h
noncomputable def aoa:Env:={pure:=[],opens:=[(110,cz CX)],vy:=3}
def aob:aM prog aoa:=aM.flags (aq:={pure:=[],opens:=[(110,cz CX)]}) (aM.iS bV an9)
noncomputable def KH:List AV->List Row->a6 hf
 |[.own p,.int .i64 0,.int .i64 n,.int .i64 lm,.fn 34 []],[.arr false (.agg [.int .i64,.str,.slice (.agg [.str,.int .i64]),.str,.slice (.agg [.str,.str]),.slice (.int .u8),.int .i64,.int .i64,.int .i64,.slice (.agg [.str,.int .i64,.int .i64,.bool])]) 89 es _]=>.bt (Nat.beq p aE&&(decide (n=es.length/\es.length<=3)&&nc es)) (.leaf (.tup [],[some (.arr false db 89 (kU es) none)],[]))
 |_,_=>.no
def aoc:fH prog 69 (cz KH)/\hA (cz KH):=by
 refine⟨QO (H:=[]) aob Tryz.func69 λaj aA rows k r h=>?_,kQ _⟩;change(KH aA rows).run _=some r at h;unfold KH at h;split at h
 .rename_i p n lm es dm;obtain⟨aa,ai⟩:=bz h;simp only[ba]at aa;obtain⟨b2,bX,c3⟩:=aa;obtain⟨rfl,bX⟩:=bH bX;obtain rfl:=cH b2;refine⟨bb,λrows' gA=>?_⟩;obtain⟨sp,rfl⟩:∃sp,rows'=[.arr false db 89 es (some sp)]:=by
    match rows',gA with
    |[r1],⟨⟨sp,af,_⟩,_⟩=>exact⟨sp,by rw[af]⟩
  match es,bX,c3,ai with
  |[],_,c3,ai=>refine bn (b:=bif Nat.beq aE aE&&(decide ((0:Int)=(([]:List AV).length:Nat)/\([]:List AV).length<=3)&&nc [])then k (.tup []) [some (.arr false db 89 (kU []) none)] []else none) ?_;exact aT (a' (aV (b9 _) (aV (aS ⟨rfl,bb⟩) c3))) ai
  |[a],_,c3,ai=>refine bn (b:=bif Nat.beq aE aE&&(decide ((1:Int)=(([a]:List AV).length:Nat)/\([a]:List AV).length<=3)&&nc [a])then k (.tup []) [some (.arr false db 89 (kU [a]) none)] []else none) ?_;exact aT (a' (aV (b9 _) (aV (aS ⟨rfl,bb⟩) c3))) ai
  |[a,b],_,c3,ai=>refine bn (b:=bif Nat.beq aE aE&&(decide ((2:Int)=(([a,b]:List AV).length:Nat)/\([a,b]:List AV).length<=3)&&nc [a,b])then k (.tup []) [some (.arr false db 89 (kU [a,b]) none)] []else none) ?_;exact aT (a' (aV (b9 _) (aV (aS ⟨rfl,bb⟩) c3))) ai
  |[a,b,c],_,c3,ai=>refine bn (b:=bif Nat.beq aE aE&&(decide ((3:Int)=(([a,b,c]:List AV).length:Nat)/\([a,b,c]:List AV).length<=3)&&nc [a,b,c])then k (.tup []) [some (.arr false db 89 (kU [a,b,c]) none)] []else none) ?_;exact aT (a' (aV (b9 _) (aV (aS ⟨rfl,bb⟩) c3))) ai
 .cases h
noncomputable def aod:Env:={pure:=[(118,jc prog mC [] Tryz.f118),(119,jc prog mC [] Tryz.f119)]}
def aoe:aM prog aod:=aM.br (aM.br bV (inl bV Tryz.func119 aG)) (inl bV Tryz.func118 aG)
noncomputable def CY:List AV->List Row->a6 hf
 |[.own p,.fn 34 []],[.arr false (.agg [.int .i64,.str,.slice (.agg [.str,.int .i64]),.str,.slice (.agg [.str,.str]),.slice (.int .u8),.int .i64,.int .i64,.int .i64,.slice (.agg [.str,.int .i64,.int .i64,.bool])]) 89 es _]=>.bt (Nat.beq p aE&&(decide (es.length<=3)&&nc es)) (.leaf (.tup [],[some (.arr false db 89 (kU es) none)],[]))
 |_,_=>.no
def aof:fH prog 33 (cz CY)/\hA (cz CY):=by
 refine⟨QO (H:=[]) (aM.br (aM.iS bV aoc) (inl aoe Tryz.func70 aG)) Tryz.func33 λaj aA rows k r h=>?_,kQ _⟩;change(CY aA rows).run _=some r at h;unfold CY at h;split at h
 .rename_i p es dm;obtain⟨aa,ai⟩:=bz h;simp only[ba]at aa;obtain⟨b2,bX,c3⟩:=aa;have bX:=bH bX;obtain rfl:=cH b2;refine⟨bb,λrows' gA=>?_⟩;obtain⟨sp,rfl⟩:∃sp,rows'=[.arr false db 89 es (some sp)]:=by
    match rows',gA with
    |[r1],⟨⟨sp,af,_⟩,_⟩=>exact⟨sp,by rw[af]⟩
  match es,bX,c3,ai with
  |[],_,c3,ai=>refine bn (b:=bif Nat.beq aE aE&&(decide ((0:Int)=(([]:List AV).length:Nat)/\([]:List AV).length<=3)&&nc [])then k (.tup []) [some (.arr false db 89 (kU []) none)] []else none) ?_;exact aT (a' (aV (b9 _) (aV (aS ⟨rfl,bb⟩) c3))) ai
  |[a],_,c3,ai=>refine bn (b:=bif Nat.beq aE aE&&(decide ((1:Int)=(([a]:List AV).length:Nat)/\([a]:List AV).length<=3)&&nc [a])then k (.tup []) [some (.arr false db 89 (kU [a]) none)] []else none) ?_;exact aT (a' (aV (b9 _) (aV (aS ⟨rfl,bb⟩) c3))) ai
  |[a,b],_,c3,ai=>refine bn (b:=bif Nat.beq aE aE&&(decide ((2:Int)=(([a,b]:List AV).length:Nat)/\([a,b]:List AV).length<=3)&&nc [a,b])then k (.tup []) [some (.arr false db 89 (kU [a,b]) none)] []else none) ?_;exact aT (a' (aV (b9 _) (aV (aS ⟨rfl,bb⟩) c3))) ai
  |[a,b,c],_,c3,ai=>refine bn (b:=bif Nat.beq aE aE&&(decide ((3:Int)=(([a,b,c]:List AV).length:Nat)/\([a,b,c]:List AV).length<=3)&&nc [a,b,c])then k (.tup []) [some (.arr false db 89 (kU [a,b,c]) none)] []else none) ?_;exact aT (a' (aV (b9 _) (aV (aS ⟨rfl,bb⟩) c3))) ai
 .cases h
def CZ:List AV->a6 AV
 |[.agg [.int .i64 x,.str f,.ab (.agg [.str,.int .i64]) ae,.str d,.ab (.agg [.str,.str]) aC,.ab (.int .u8) bs,.int .i64 b0,.int .i64 bS,.int .i64 n3,.ab (.agg [.str,.int .i64,.int .i64,.bool]) ws]]=>.leaf (.fn 73 [.ref [.int .i64 x,.str f,.ab eR ae,.str d,.ab fb aC,.ab (.int .u8) bs,.int .i64 b0,.int .i64 bS,.int .i64 n3,.ab fW ws]])
 |_=>.no
def aog:SumOK Tryz.prog 38 (aK CZ)/\b5 (aK CZ):=by
 refine⟨PC bV Tryz.func38 aG λaj aA k r h=>?_,qD _⟩;change(CZ aA).run k=some r at h;unfold CZ at h;split at h
 .rename_i x f ae d aC bs b0 bS n3 ws;refine bn (b:=k (.fn 73 [.ref [.I x,.str f,.ab (.agg [.str,.int .i64]) ae,.str d,.ab (.agg [.str,.str]) aC,.ab (.int .u8) bs,.I b0,.I bS,.I n3,.ab (.agg [.str,.int .i64,.int .i64,.bool]) ws]])) ?_;exact h
 .cases h
abbrev rF:Sh:=.agg [.int .i64,.str,.slice (.int .i64)]
def eu(v:AV):Bool:=match v with
 |.J=>true
 |_=>false
def eH(h:eu v=true):v=.J:=by
 unfold eu at h;split at h
 .rfl
 .cases h
def KI(v:AV):Bool:=match v with
 |.int .i64 _=>true
 |_=>false
def aag(h:KI v=true):∃n,v=.int .i64 n:=by
 unfold KI at h;split at h
 .exact⟨_,rfl⟩
 .cases h
def QR(i:Nat)(v:AV):Bool:=match v with
 |.eptr j _ 0=>Nat.beq j i
 |_=>false
def aoh{i:Nat}(h:QR i v=true):∃k,v=.eptr i k 0:=by
 unfold QR at h;split at h
 .obtain rfl:=cH h;exact⟨_,rfl⟩
 .cases h
def KJ(v:AV):Bool:=match v with
 |.agg [.int .i64 _,.str _,.ab (.agg [.str,.int .i64]) _,.str _,.ab (.agg [.str,.str]) _,.ab (.int .u8) _,.int .i64 _,.int .i64 _,.int .i64 _,.ab (.agg [.str,.int .i64,.int .i64,.bool]) _]=>true
 |_=>false
def aah(h:KJ v=true):∃b0 f ae d aC bs bS n3 n4 ws,v=.agg [.int .i64 b0,.str f,.ab (.agg [.str,.int .i64]) ae,.str d,.ab (.agg [.str,.str]) aC,.ab (.int .u8) bs,.int .i64 bS,.int .i64 n3,.int .i64 n4,.ab (.agg [.str,.int .i64,.int .i64,.bool]) ws]:=by
 unfold KJ at h;split at h
 .exact⟨_,_,_,_,_,_,_,_,_,_,rfl⟩
 .cases h
def QS(v:AV):Bool:=match v with
 |.fn 73 [.ref [.int .i64 _,.str _,.ab (.agg [.str,.int .i64]) _,.str _,.ab (.agg [.str,.str]) _,.ab (.int .u8) _,.int .i64 _,.int .i64 _,.int .i64 _,.ab (.agg [.str,.int .i64,.int .i64,.bool]) _]]=>true
 |_=>false
def aoi(h:QS v=true):∃b0 f ae d aC bs bS n3 n4 ws,v=.fn 73 [.ref [.int .i64 b0,.str f,.ab (.agg [.str,.int .i64]) ae,.str d,.ab (.agg [.str,.str]) aC,.ab (.int .u8) bs,.int .i64 bS,.int .i64 n3,.int .i64 n4,.ab (.agg [.str,.int .i64,.int .i64,.bool]) ws]]:=by
 unfold QS at h;split at h
 .exact⟨_,_,_,_,_,_,_,_,_,_,rfl⟩
 .cases h
def mG:List (AV->Bool):=Qt 2::eu::eu::eu::eu::eu::Ak 1125899906842625::eu::eu::Ak 1125899906842626::Ak 1125899906842628::Ak 1125899906842630::eu::Ak 1125899906842632::eu::eu::eu::eu::eu::eu::eu::eu::eu::eu::eu::eu::eu::eu::eu::eu::eu::eu::eu::eu::eu::eu::Qs 1125899906842633::KI::KI::Qr::QR 1125899906842633::KJ::KJ::QS::eu::eu::eu::eu::eu::eu::eu::eu::eu::eu::eu::eu::[eu,eu,eu,eu,eu,eu,eu,eu,eu,eu,eu,eu,eu,eu,eu,eu]
def aai{l:List AV}(a7:kS mG l=true):∃b0 bS kq aaj I3 f6 aak d8 aal aam n11 n12 n13 aan n15 f16 aao d18 aap aaq n21 n22 n23 aar n25 f26 aas d28 aat aau n31 n32 n33 aav,l=.tup [.int .i64 2]:: .J:: .J:: .J:: .J:: .J:: .ptr 1125899906842625 0:: .J:: .J:: .ptr 1125899906842626 0:: .ptr 1125899906842628 0:: .ptr 1125899906842630 0:: .J:: .ptr 1125899906842632 0:: .J:: .J:: .J:: .J:: .J:: .J:: .J:: .J:: .J:: .J:: .J:: .J:: .J:: .J:: .J:: .J:: .J:: .J:: .J:: .J:: .J:: .J:: .own 1125899906842633:: .int .i64 b0:: .int .i64 bS:: .bool kq:: .eptr 1125899906842633 aaj 0:: .agg [.int .i64 I3,.str f6,.ab (.agg [.str,.int .i64]) aak,.str d8,.ab (.agg [.str,.str]) aal,.ab (.int .u8) aam,.int .i64 n11,.int .i64 n12,.int .i64 n13,.ab (.agg [.str,.int .i64,.int .i64,.bool]) aan]:: .agg [.int .i64 n15,.str f16,.ab (.agg [.str,.int .i64]) aao,.str d18,.ab (.agg [.str,.str]) aap,.ab (.int .u8) aaq,.int .i64 n21,.int .i64 n22,.int .i64 n23,.ab (.agg [.str,.int .i64,.int .i64,.bool]) aar]:: .fn 73 [.ref [.int .i64 n25,.str f26,.ab (.agg [.str,.int .i64]) aas,.str d28,.ab (.agg [.str,.str]) aat,.ab (.int .u8) aau,.int .i64 n31,.int .i64 n32,.int .i64 n33,.ab (.agg [.str,.int .i64,.int .i64,.bool]) aav]]:: .J:: .J:: .J:: .J:: .J:: .J:: .J:: .J:: .J:: .J:: .J:: .J::[.J,.J,.J,.J,.J,.J,.J,.J,.J,.J,.J,.J,.J,.J,.J,.J]:=by unfold mG at a7;obtain⟨_,_,rfl,h',af⟩:=dN a7;obtain rfl:=am4 h';obtain⟨_,_,rfl,h',ao⟩:=dN af;obtain rfl:=eH h';obtain⟨_,_,rfl,h',a1⟩:=dN ao;obtain rfl:=eH h';obtain⟨_,_,rfl,h',ca⟩:=dN a1;obtain rfl:=eH h';obtain⟨_,_,rfl,h',dA⟩:=dN ca;obtain rfl:=eH h';obtain⟨_,_,rfl,h',gB⟩:=dN dA;obtain rfl:=eH h';obtain⟨_,_,rfl,h',pO⟩:=dN gB;obtain rfl:=FE h';obtain⟨_,_,rfl,h',vZ⟩:=dN pO;obtain rfl:=eH h';obtain⟨_,_,rfl,h',tA⟩:=dN vZ;obtain rfl:=eH h';obtain⟨_,_,rfl,h',FA⟩:=dN tA;obtain rfl:=FE h';obtain⟨_,_,rfl,h',QT⟩:=dN FA;obtain rfl:=FE h';obtain⟨_,_,rfl,h',zr⟩:=dN QT;obtain rfl:=FE h';obtain⟨_,_,rfl,h',YK⟩:=dN zr;obtain rfl:=eH h';obtain⟨_,_,rfl,h',aoj⟩:=dN YK;obtain rfl:=FE h';obtain⟨_,_,rfl,h',aok⟩:=dN aoj;obtain rfl:=eH h';obtain⟨_,_,rfl,h',aol⟩:=dN aok;obtain rfl:=eH h';obtain⟨_,_,rfl,h',aom⟩:=dN aol;obtain rfl:=eH h';obtain⟨_,_,rfl,h',aon⟩:=dN aom;obtain rfl:=eH h';obtain⟨_,_,rfl,h',aoo⟩:=dN aon;obtain rfl:=eH h';obtain⟨_,_,rfl,h',aop⟩:=dN aoo;obtain rfl:=eH h';obtain⟨_,_,rfl,h',aoq⟩:=dN aop;obtain rfl:=eH h';obtain⟨_,_,rfl,h',aor⟩:=dN aoq;obtain rfl:=eH h';obtain⟨_,_,rfl,h',aos⟩:=dN aor;obtain rfl:=eH h';obtain⟨_,_,rfl,h',QU⟩:=dN aos;obtain rfl:=eH h';obtain⟨_,_,rfl,h',aot⟩:=dN QU;obtain rfl:=eH h';obtain⟨_,_,rfl,h',aou⟩:=dN aot;obtain rfl:=eH h';obtain⟨_,_,rfl,h',aov⟩:=dN aou;obtain rfl:=eH h';obtain⟨_,_,rfl,h',aow⟩:=dN aov;obtain rfl:=eH h';obtain⟨_,_,rfl,h',aox⟩:=dN aow;obtain rfl:=eH h';obtain⟨_,_,rfl,h',aoy⟩:=dN aox;obtain rfl:=eH h';obtain⟨_,_,rfl,h',aoz⟩:=dN aoy;obtain rfl:=eH h';obtain⟨_,_,rfl,h',aoA⟩:=dN aoz;obtain rfl:=eH h';obtain⟨_,_,rfl,h',aoB⟩:=dN aoA;obtain rfl:=eH h';obtain⟨_,_,rfl,h',aoC⟩:=dN aoB;obtain rfl:=eH h';obtain⟨_,_,rfl,h',aoD⟩:=dN aoC;obtain rfl:=eH h';obtain⟨_,_,rfl,h',aoE⟩:=dN aoD;obtain rfl:=eH h';obtain⟨_,_,rfl,h',aoF⟩:=dN aoE;obtain rfl:=am3 h';obtain⟨_,_,rfl,h',aoG⟩:=dN aoF;obtain⟨b0,rfl⟩:=aag h';obtain⟨_,_,rfl,h',aoH⟩:=dN aoG;obtain⟨bS,rfl⟩:=aag h';obtain⟨_,_,rfl,h',xb⟩:=dN aoH;obtain⟨kq,rfl⟩:=am2 h';obtain⟨_,_,rfl,h',aoI⟩:=dN xb;obtain⟨aaj,rfl⟩:=aoh h';obtain⟨_,_,rfl,h',aoJ⟩:=dN aoI;obtain⟨I3,f6,aak,d8,aal,aam,n11,n12,n13,aan,rfl⟩:=aah h';obtain⟨_,_,rfl,h',aoK⟩:=dN aoJ;obtain⟨n15,f16,aao,d18,aap,aaq,n21,n22,n23,aar,rfl⟩:=aah h';obtain⟨_,_,rfl,h',aoL⟩:=dN aoK;obtain⟨n25,f26,aas,d28,aat,aau,n31,n32,n33,aav,rfl⟩:=aoi h';obtain⟨_,_,rfl,h',aoM⟩:=dN aoL;obtain rfl:=eH h';obtain⟨_,_,rfl,h',aoN⟩:=dN aoM;obtain rfl:=eH h';obtain⟨_,_,rfl,h',aoO⟩:=dN aoN;obtain rfl:=eH h';obtain⟨_,_,rfl,h',EF⟩:=dN aoO;obtain rfl:=eH h';obtain⟨_,_,rfl,h',aoP⟩:=dN EF;obtain rfl:=eH h';obtain⟨_,_,rfl,h',aoQ⟩:=dN aoP;obtain rfl:=eH h';obtain⟨_,_,rfl,h',aoR⟩:=dN aoQ;obtain rfl:=eH h';obtain⟨_,_,rfl,h',aoS⟩:=dN aoR;obtain rfl:=eH h';obtain⟨_,_,rfl,h',aoT⟩:=dN aoS;obtain rfl:=eH h';obtain⟨_,_,rfl,h',aoU⟩:=dN aoT;obtain rfl:=eH h';obtain⟨_,_,rfl,h',aoV⟩:=dN aoU;obtain rfl:=eH h';obtain⟨_,_,rfl,h',aoW⟩:=dN aoV;obtain rfl:=eH h';obtain⟨_,_,rfl,h',aoX⟩:=dN aoW;obtain rfl:=eH h';obtain⟨_,_,rfl,h',aoY⟩:=dN aoX;obtain rfl:=eH h';obtain⟨_,_,rfl,h',aoZ⟩:=dN aoY;obtain rfl:=eH h';obtain⟨_,_,rfl,h',Ae⟩:=dN aoZ;obtain rfl:=eH h';obtain⟨_,_,rfl,h',ao0⟩:=dN Ae;obtain rfl:=eH h';obtain⟨_,_,rfl,h',ao1⟩:=dN ao0;obtain rfl:=eH h';obtain⟨_,_,rfl,h',qs⟩:=dN ao1;obtain rfl:=eH h';obtain⟨_,_,rfl,h',ao2⟩:=dN qs;obtain rfl:=eH h';obtain⟨_,_,rfl,h',ao3⟩:=dN ao2;obtain rfl:=eH h';obtain⟨_,_,rfl,h',ao4⟩:=dN ao3;obtain rfl:=eH h';obtain⟨_,_,rfl,h',ao5⟩:=dN ao4;obtain rfl:=eH h';obtain⟨_,_,rfl,h',ao6⟩:=dN ao5;obtain rfl:=eH h';obtain⟨_,_,rfl,h',ao7⟩:=dN ao6;obtain rfl:=eH h';obtain⟨_,_,rfl,h',ao8⟩:=dN ao7;obtain rfl:=eH h';obtain⟨_,_,rfl,h',ao9⟩:=dN ao8;obtain rfl:=eH h';obtain⟨_,_,rfl,h',apa⟩:=dN ao9;obtain rfl:=eH h';obtain rfl:=am1 apa;exact⟨_,_,_,_,_,_,_,_,_,_,_,_,_,_,_,_,_,_,_,_,_,_,_,_,_,_,_,_,_,_,_,_,_,_,rfl⟩
noncomputable def apb:Env:={pure:=[]}
def aaw:aM prog apb:=bV
def aax{n:Nat}(h:n<=1000001):roomB n (prog.bytesOf 49)=true:=hW al (bH aG)
def u1(x:Int)(a:List UInt8)(ms us:List AV):Bool:=bif !mF (jh x a) us then decide (ht a ms<2)else false
def C0:List AV->List Row->a6 hf
 |[.own p,.agg [.int .i64 y,.str a,.ab (.int .i64) to]],[.box false rec,.box false [.int .i64 dn,.int .i64 c2],.box false [.own 1125899906842627],.box false [.ct ms],.box false [.own 1125899906842629],.box false [.ct us],.box false [.own 1125899906842631],.arr false (.agg [.int .i64,.str,.slice (.int .i64)]) 49 out none,.box false [.int .i64 x,.str f,.ab (.agg [.str,.int .i64]) ae,.str d,.ab (.agg [.str,.str]) aC,.ab (.int .u8) bs,.int .i64 b0,.int .i64 bS,.int .i64 n3,.ab (.agg [.str,.int .i64,.int .i64,.bool]) ws],.arr false (.agg [.int .i64,.str,.slice (.agg [.str,.int .i64]),.str,.slice (.agg [.str,.str]),.slice (.int .u8),.int .i64,.int .i64,.int .i64,.slice (.agg [.str,.int .i64,.int .i64,.bool])]) 89 dk none]=>
  .bt (p==aE&&(kS mG rec&&(decide (out.length<=1000000)&&fX (ms,us)))) (.cY (u1 x a ms us)
   (.leaf (.bool true,[some (.box false rec),some (.box false [.int .i64 dn,.int .i64 c2]),some (.box false [.own 1125899906842627]),some (.box false [.ct (gG (.str a) (.int .i64 (i64.wrap (ht a ms+1))) ms)]),some (.box false [.own 1125899906842629]),some (.box false [.ct us]),some (.box false [.own bY]),none,some (.box false [.int .i64 x,.str f,.ab eR ae,.str d,.ab fb aC,.ab (.int .u8) bs,.int .i64 b0,.int .i64 bS,.int .i64 n3,.ab fW ws]),some (.arr false db 89 dk none)],[.arr false rF 49 (out++[.agg [.int .i64 y,.str a,.ab gm to]]) none]))
   (.leaf (.bool true,[some (.box false rec),some (.box false [.int .i64 dn,.int .i64 c2]),some (.box false [.own 1125899906842627]),some (.box false [.ct ms]),some (.box false [.own 1125899906842629]),some (.box false [.ct us]),some (.box false [.own 1125899906842631]),some (.arr false rF 49 out none),some (.box false [.int .i64 x,.str f,.ab eR ae,.str d,.ab fb aC,.ab (.int .u8) bs,.int .i64 b0,.int .i64 bS,.int .i64 n3,.ab fW ws]),some (.arr false db 89 dk none)],[])))
 |_,_=>.no
def apc:Eh prog 2 (cz C0)/\hA (cz C0):=by
 refine⟨am0 aaw (so aaw aG) rfl (q:=ra 2) rfl (ch.nil aG) (ch.nil aG) (K:=[]) λaj aA rows k r h=>?_,kQ C0⟩;have h':(C0 aA rows).run (λq=>k q.1 q.2.1 q.2.2)=some r:=h;unfold C0 at h';split at h'
 .rename_i p y a to rec dn c2 ms us out x f ae d aC bs b0 bS n3 ws dk;obtain⟨aa,ai⟩:=bz h';simp only[ba]at aa;obtain⟨au,aD,hx,hm⟩:=aa;obtain rfl:p=aE:=by simpa using au
  have ag:=bH hx;obtain⟨apd,ape,apf,apg,aph,api,apj,apk,apl,apm,apn,apo,apq,apr,aps,apt,apu,apv,apw,apx,apy,apz,apA,apB,apC,apD,apE,apF,apG,apH,apI,apJ,apK,apL,rfl⟩:=aai aD;clear aD;refine bn (b:=have aZ:=jb (shOf prog depth 9) (shOf prog depth 3) ms;have bd:=(Sh.agg [.str,.int .i64,.int .i64,.bool]);have bF:=[AV.agg [.I y,.str a,.ab (.int .i64) to]];have bI:=(Sh.agg [.str,.int .i64]);have b3:=(Row.box false [.own 1125899906842627]);have cd:=(Row.box false [.own 1125899906842629]);have dD:=(Row.box false [.I dn,.I c2]);have fM:=(Sh.agg [.str,.str]);have ft:=(Sh.int .u8);have az:=(Row.box false [AV.tup [AV.int i64 2],AV.J,AV.J,AV.J,AV.J,AV.J,AV.ptr 1125899906842625 (0:Nat),AV.J,AV.J,AV.ptr 1125899906842626 (0:Nat),AV.ptr 1125899906842628 (0:Nat),AV.ptr 1125899906842630 (0:Nat),AV.J,AV.ptr 1125899906842632 (0:Nat),AV.J,AV.J,AV.J,AV.J,AV.J,AV.J,AV.J,AV.J,AV.J,AV.J,AV.J,AV.J,AV.J,AV.J,AV.J,AV.J,AV.J,AV.J,AV.J,AV.J,AV.J,AV.J,AV.own 1125899906842633,AV.int i64 apd,AV.int i64 ape,AV.bool apf,AV.eptr (1125899906842633:Nat) apg (0:Nat),AV.agg [AV.int i64 aph,AV.str api,AV.ab bI apj,AV.str apk,AV.ab fM apl,AV.ab ft apm,AV.int i64 apn,AV.int i64 apo,AV.int i64 apq,AV.ab bd apr],AV.agg [AV.int i64 aps,AV.str apt,AV.ab bI apu,AV.str apv,AV.ab fM apw,AV.ab ft apx,AV.int i64 apy,AV.int i64 apz,AV.int i64 apA,AV.ab bd apB],AV.fn (73:Nat) [AV.ref [AV.int i64 apC,AV.str apD,AV.ab bI apE,AV.str apF,AV.ab fM apG,AV.ab ft apH,AV.int i64 apI,AV.int i64 apJ,AV.int i64 apK,AV.ab bd apL]],AV.J,AV.J,AV.J,AV.J,AV.J,AV.J,AV.J,AV.J,AV.J,AV.J,AV.J,AV.J,AV.J,AV.J,AV.J,AV.J,AV.J,AV.J,AV.J,AV.J,AV.J,AV.J,AV.J,AV.J,AV.J,AV.J,AV.J,AV.J]);have aI:=(Row.arr false (.agg [.int .i64,.str,bI.slice,.str,fM.slice,ft.slice,.int .i64,.int .i64,.int .i64,bd.slice]) 89 dk none);have aO:=(Row.box false [.I x,.str f,.ab bI ae,.str d,.ab fM aC,.ab ft bs,.I b0,.I bS,.I n3,.ab bd ws]);have gC:=roomB (out.length+bF.length) (prog.bytesOf 49);have fQ:=(Row.box false [.own 2251799813685248]);have hN:=(Row.box false [.ct us]);have gO:=(Sh.agg [.int .i64,.str,.slice (.int .i64)]);have aF:=[some az,some dD,some b3,some (.box false [.ct ms]),some cd,some hN,some (.box false [.own 1125899906842631]),some (.arr false gO 49 out none),some aO,some aI];have cJ:=[Row.arr false gO 49 (out++bF) none];have gu:=(AV.bool true);have gZ:=(AV.str a);have av:=bif aZ then bif dq gZ ms then bif aZ then bif gC then k gu [some az,some dD,some b3,some (.box false [.ct (gG gZ (.I (i64.wrap ((aW (gj gZ ms))+(1:Int)))) ms)]),some cd,some hN,some fQ,none,some aO,some aI] cJ else none else none else bif aZ then bif gC then k gu [some az,some dD,some b3,some (.box false [.ct (gG gZ (.I (i64.wrap ((0:Int)+(1:Int)))) ms)]),some cd,some hN,some fQ,none,some aO,some aI] cJ else none else none else none;have bk:=bif aZ then bif dq gZ ms then bif decide ((aW (gj gZ ms))<(2:Int))then av else k gu aF []else av else none;have ji:=(AV.agg [.I x,.str a]);bif jb (shOf prog depth 104) (shOf prog depth 4) us then bif dq ji us then bif !((gj ji us).cells.headD .J).toBool then bk else k gu aF []else bk else none) ?_;conv=>zeta
  have m0:=hm;unfold fX at m0;rw[ba]at m0;obtain⟨m1,m2⟩:=m0;simp only at m1 m2;have aay:roomB (out.length+[AV.agg [AV.int .i64 y,AV.str a,AV.ab (Sh.int i64) to]].length) (prog.bytesOf 49)=true:=aax ps;have eP:u1 x a ms us=bif !(bif dq (.agg [.int .i64 x,.str a]) us then((gj (.agg [.int .i64 x,.str a]) us).cells.headD .J).toBool else false)then decide (ht a ms<2)else false:=rfl;generalize k2:((gj (.agg [.int .i64 x,.str a]) us).cells.headD .J).toBool=eO at*;cases a1:dq (.str a) ms
  .have QV:ht a ms=0:=by unfold ht;rw[a1];rfl
   rw[<-ai,eP,QV,CH,J9,KA,J3,m1,m2,aay];cases dq (.agg [.int .i64 x,.str a]) us<;>cases eO<;>(refine Eq.symm (Eq.symm ?_);kernel_rfl)
  .have QV:ht a ms=aW (gj (.str a) ms):=by unfold ht;rw[a1];rfl
   rw[<-ai,eP,QV,CH,J9,KA,J3,m1,m2,aay];cases dq (.agg [.int .i64 x,.str a]) us<;>cases eO<;>cases decide (aW (gj (.str a) ms)<2)<;>(refine Eq.symm (Eq.symm ?_);kernel_rfl)
 .cases h'
end Go.Proofs.YtijdnecnjenleaaGreatDoor
