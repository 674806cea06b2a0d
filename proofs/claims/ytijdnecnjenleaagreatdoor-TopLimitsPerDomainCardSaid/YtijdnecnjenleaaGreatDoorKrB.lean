/-
  slices.Concat of bytes.
-/
import Derived.Test.YtijdnecnjenleaaGreatDoorKpM
import Derived.Lib.AppendZerosOnto
set_option linter.all false
namespace Go.Proofs.YtijdnecnjenleaaGreatDoor
open IntKind
open Go.Ev
open Tryz
def ef(n a b:Int):Bool:=decide (n>=a)&&decide (n<=b)
def tQ:List AV->a6 AV
 |[.int .i64 n,.int .i64 a,.int .i64 b]=>.leaf (.bool (ef n a b))
 |_=>.no
def At:SumOK prog 8 (aK tQ)/\b5 (aK tQ):=by
 refine eJ bV Tryz.func8 aG λaj aA k r h=>?_;unfold tQ at h;split at h
 .rename_i n a b;have ai:=h;refine bn (b:=bif decide (n>=a)then k (.bool (decide (n<=b)))else k (.bool false)) ?_;rw[<-ai];show _=k (.bool (decide (n>=a)&&decide (n<=b)));cases decide (n>=a)<;>rfl
 .cases h
noncomputable def abx:Env:={pure:=[(8,aK tQ)]}
def Rn:aM prog abx:=aM.br bV At
def u'(c:Int):Bool:=ef (i64.wrap c) 97 122||(ef (i64.wrap c) 65 90||ef (i64.wrap c) 48 57)
def F7:List AV->a6 AV
 |[.int .u8 c]=>.leaf (.bool (u' c))
 |_=>.no
def aby:SumOK prog 140 (aK F7)/\b5 (aK F7):=by
 refine eJ Rn Tryz.func140 aG λaj aA k r h=>?_;unfold F7 at h;split at h
 .rename_i c;have ai:=h;refine bn (b:=bif ef (i64.wrap c) (97:Int) (122:Int)then k (.bool true)else bif ef (i64.wrap c) (65:Int) (90:Int)then k (.bool true)else k (.bool (ef (i64.wrap c) (48:Int) (57:Int)))) ?_;rw[<-ai];unfold u';cases ef (i64.wrap c) 97 122<;>cases ef (i64.wrap c) 65 90<;>rfl
 .cases h
noncomputable def abz:Env:={pure:=[(8,aK tQ),(140,aK F7)]}
def abA:aM prog abz:=aM.br (aM.br bV aby) At
noncomputable def abB:Code:=((Tryz.f100.body.map c7).getD []).headD .skip
def C'(s:List UInt8)(i:Nat):Bool:= !u' (b8 s i)&&(b8 s i !=45&&(b8 s i !=95&&b8 s i !=46))
def abC:List AV->List (Option Row)->a6 cy
 |[.str s,.bool z,.int .i64 i],[]=>
  .bt (bl s.length i s.length) (h8 (C' s) s.length (λq=>.leaf (.ret,[.str s,.bool false,.int .i64 (q:Nat)],[]))
   (.leaf (.exit 0,[.str s,.bool z,.int .i64 s.length],[])) i.toNat)
 |_,_=>.no
def K4:Ev.Loop:=⟨{len:=36,dr:=[0,2,3]},dP abC⟩
def aq4:dj prog abz [(2,K4)] abB K4:=by
 refine ed abA.dX rfl (ch.nil aG) QF (λaj vs rs k r h=>?_);unfold abC at h;split at h
 .rename_i s z i;obtain⟨aa,ai⟩:=bz h;obtain⟨_,an,j,rfl,aP⟩:=eA aa;rw[bK]at ai;refine bn (b:=have az:=((s.getD j (0:UInt8)).toNat:Int);have aO:=(s.length:Int);have aZ:=(j:Int);have aI:=inb aZ s.length;have bd:=(i64.wrap (aZ+(1:Int)));have aF:=(bx (C' s) s.length bd.toNat);have av:=bif decide ((aO-i64.wrap (aZ+(1:Int))).toNat<(aO-aZ).toNat)then bif bl aO bd s.length then bif aF.isSome then k .ret [.str s,.bool false,.I ((aF.getD 0):Int)] []else k (.exit 0) [.str s,.bool z,.I aO] []else none else none;bif decide (aZ<aO)then bif aI then bif !u' az then bif aI then bif az !=45 then bif aI then bif az !=95 then bif aI then bif az !=46 then k .ret [.str s,.bool false,.I aZ] []else av else none else av else none else av else none else av else none else k (.exit 0) [.str s,.bool z,.I aZ] []) ?_;conv=>zeta
  rw[<-ai];by_cases aL:j<s.length
  .obtain⟨aU,bc,bw,bQ,bN⟩:=ew aL an;have a0:(((s.getD j 0).toNat:Nat):Int)=b8 s j:=rfl;rw[j2 _ _ _ _ _ aL];simp only[aU,bc,bw,bQ,bN,a0,b4,bK];have lV:C' s j=(!u' (b8 s j)&&(b8 s j !=45&&(b8 s j !=95&&b8 s j !=46))):=rfl;rw[lV];cases u' (b8 s j)<;>cases(b8 s j !=45)<;>cases(b8 s j !=95)<;>cases(b8 s j !=46)<;>rfl
  .obtain rfl:j=s.length:=al;exact jo
 .cases h
def yf(s:List UInt8):Bool:= !(bx (C' s) s.length 0).isSome&&ef s.length 1 60
def KP:List AV->a6 AV
 |[.str s]=>.bt (small s.length) (.leaf (.bool (yf s)))
 |_=>.no
def ap2:SumOK prog 100 (aK KP)/\b5 (aK KP):=by
 refine iH (K:=[(2,K4)]) (b:=abB) (l:=K4) abA Tryz.func100 aG aG aq4 λaj aA k r h=>?_;unfold KP at h;split at h
 .rename_i s;obtain⟨aa,ai⟩:=bz h;refine bn (b:=bif bl (s.length:Int) (0:Int) s.length then bif(bx (C' s) s.length 0).isSome then k (.bool false)else k (.bool (ef (s.length:Int) (1:Int) (60:Int)))else none) ?_;rw[<-ai,e1 aa];unfold yf;cases(bx (C' s) s.length 0).isSome<;>rfl
 .cases h
noncomputable def abD:Code:=((Tryz.f141.body.map c7).getD []).headD .skip
def Da(s:List UInt8)(i:Nat):Bool:=(b8 s i==46&&((i:Int)==0||((i:Int)==i64.wrap (s.length-1)||b8 s (i-1)==46)))||(!ef (i64.wrap (b8 s i)) 97 122&&(!ef (i64.wrap (b8 s i)) 48 57&&(b8 s i !=45&&b8 s i !=46)))
def abE:List AV->List (Option Row)->a6 cy
 |[.str s,.bool z,.int .i64 i],[]=>
  .bt (bl s.length i s.length) (h8 (Da s) s.length (λq=>.leaf (.ret,[.str s,.bool false,.int .i64 (q:Nat)],[]))
   (.leaf (.exit 0,[.str s,.bool z,.int .i64 s.length],[])) i.toNat)
 |_,_=>.no
def K5:Ev.Loop:=⟨{len:=60,dr:=[0,2,3]},dP abE⟩
def aq5:dj prog abx [(2,K5)] abD K5:=by
 refine ed Rn.dX rfl (ch.nil aG) QF (λaj vs rs k r h=>?_);unfold abE at h;split at h
 .rename_i s z i;obtain⟨aa,ai⟩:=bz h;obtain⟨_,an,j,rfl,aP⟩:=eA aa;rw[bK]at ai;refine bn (b:=have aF:=((s.getD j (0:UInt8)).toNat:Int);have aO:=(j:Int);have aI:=[AV.str s,.bool false,.I aO];have aZ:=(s.length:Int);have bk:=inb aO s.length;have bF:=(i64.wrap (aO-(1:Int)));have bI:=(i64.wrap (aO+(1:Int)));have bd:=(bx (Da s) s.length bI.toNat);have av:=bif decide ((aZ-i64.wrap (aO+(1:Int))).toNat<(aZ-aO).toNat)then bif bl aZ bI s.length then bif bd.isSome then k .ret [.str s,.bool false,.I ((bd.getD 0):Int)] []else k (.exit 0) [.str s,.bool z,.I aZ] []else none else none;have az:=bif !ef (i64.wrap aF) (97:Int) (122:Int)then bif !ef (i64.wrap aF) (48:Int) (57:Int)then bif bk then bif aF !=45 then bif bk then bif aF !=46 then k .ret aI []else av else none else av else none else av else av;bif decide (aO<aZ)then bif bk then bif bk then bif aF==46 then bif aO==0 then k .ret aI []else bif aO==i64.wrap (aZ-(1:Int))then k .ret aI []else bif inb bF s.length then bif((s.getD bF.toNat (0:UInt8)).toNat:Int)==46 then k .ret aI []else az else none else az else none else none else k (.exit 0) [.str s,.bool z,.I aO] []) ?_;conv=>zeta
  rw[<-ai];by_cases aL:j<s.length
  .obtain⟨aU,bc,bw,bQ,bN⟩:=ew aL an;rw[j2 _ _ _ _ _ aL];have lV:Da s j=((b8 s j==46&&((j:Int)==0||((j:Int)==i64.wrap (s.length-1)||b8 s (j-1)==46)))||(!ef (i64.wrap (b8 s j)) 97 122&&(!ef (i64.wrap (b8 s j)) 48 57&&(b8 s j !=45&&b8 s j !=46)))):=rfl;rw[lV];by_cases a7:j=0
   .subst a7;have a0:(((s.getD 0 0).toNat:Nat):Int)=b8 s 0:=rfl;simp only[aU,bc,bw,bQ,bN,a0,b4,bK];have dV:(((0:Nat):Int)==0)=true:=rfl;rw[dV];cases b8 s 0==46<;>cases ef (i64.wrap (b8 s 0)) 97 122<;>cases ef (i64.wrap (b8 s 0)) 48 57<;>cases b8 s 0 !=45<;>cases b8 s 0 !=46<;>rfl
   .have dV:((j:Int)==0)=false:=sZ al;have w1:i64.wrap ((j:Int)-1)=((j-1:Nat):Int):=by rw[mL _ al al];omega
    have i1:inb ((j-1:Nat):Int) s.length=true:=ie al al;have a0:(((s.getD j 0).toNat:Nat):Int)=b8 s j:=rfl;have bJ:(((s.getD (j-1) 0).toNat:Nat):Int)=b8 s (j-1):=rfl;simp only[aU,bc,bw,bQ,bN,dV,w1,i1,a0,bJ,b4,cU,bK,qS];cases b8 s j==46<;>cases(j:Int)==i64.wrap (s.length-1)<;>cases b8 s (j-1)==46<;>cases ef (i64.wrap (b8 s j)) 97 122<;>cases ef (i64.wrap (b8 s j)) 48 57<;>cases b8 s j !=45<;>cases b8 s j !=46<;>rfl
  .obtain rfl:j=s.length:=al;exact jo
 .cases h
def F8(s:List UInt8):Bool:= !(bx (Da s) s.length 0).isSome&&ef s.length 1 60
def K6:List AV->a6 AV
 |[.str s]=>.bt (small s.length) (.leaf (.bool (F8 s)))
 |_=>.no
def aq6:SumOK prog 141 (aK K6)/\b5 (aK K6):=by
 refine iH (K:=[(2,K5)]) (b:=abD) (l:=K5) Rn Tryz.func141 aG aG aq5 λaj aA k r h=>?_;unfold K6 at h;split at h
 .rename_i s;obtain⟨aa,ai⟩:=bz h;refine bn (b:=bif bl (s.length:Int) (0:Int) s.length then bif(bx (Da s) s.length 0).isSome then k (.bool false)else k (.bool (ef (s.length:Int) (1:Int) (60:Int)))else none) ?_;rw[<-ai,e1 aa];unfold F8;cases(bx (Da s) s.length 0).isSome<;>rfl
 .cases h
noncomputable def abF:Env:={pure:=[(8,aK tQ),(139,aK Kt),(140,aK F7),(141,aK K6)]}
def abG:aM prog abF:=aM.br (aM.br (aM.br (aM.br bV aq6) aby) ZE) At
noncomputable def abH:Code:=((Tryz.f99.body.map c7).getD []).headD .skip
def Db(s:List UInt8)(i:Nat):Bool:= !u' (b8 s i)&&(b8 s i !=45&&(b8 s i !=95&&(b8 s i !=46&&(b8 s i !=43&&b8 s i !=61))))
def abI:List AV->List (Option Row)->a6 cy
 |[.str s,.bool z,.int .i64 n,.int .i64 i],[]=>
  .bt (decide (0<=n/\n<=s.length/\s.length<=9223372036854775807)&&bl n i n.toNat) (h8 (Db s) n.toNat (λq=>.leaf (.ret,[.str s,.bool false,.int .i64 n,.int .i64 (q:Nat)],[]))
   (.leaf (.exit 0,[.str s,.bool z,.int .i64 n,.int .i64 n],[])) i.toNat)
 |_,_=>.no
def K7:Ev.Loop:=⟨{len:=54,dr:=[0,2,3,4]},dP abI⟩
def aq7(vs:List AV)(_:List (Option Row)):Nat:=match vs with
 |[_,_,.int _ n,.int _ i]=>(n-i).toNat
 |_=>0
def aq8:dj prog abF [(3,K7)] abH K7:=by
 refine ed abG.dX rfl (ch.nil aG) aq7 (λaj vs rs k r h=>?_);unfold abI at h;split at h
 .rename_i s z k' i;obtain⟨aa,ai⟩:=bz h;rw[ba]at aa;obtain⟨aX,aa⟩:=aa;obtain⟨d1,d2,d3⟩:=bH aX;obtain⟨n,rfl⟩:∃n:Nat,k'=n:=⟨k'.toNat,al⟩;rw[bK]at ai aa;obtain⟨_,an,j,rfl,aP⟩:=eA aa;rw[bK]at ai;refine bn (b:=have az:=((s.getD j (0:UInt8)).toNat:Int);have aI:=(n:Int);have aO:=(j:Int);have aF:=(i64.wrap (aO+(1:Int)));have aZ:=(bx (Db s) n aF.toNat);have av:=bif decide ((aI-i64.wrap (aO+(1:Int))).toNat<(aI-aO).toNat)then bif decide ((0:Int)<=aI/\aI<=(s.length:Int)/\s.length<=9223372036854775807)&&bl aI aF n then bif aZ.isSome then k .ret [.str s,.bool false,.I aI,.I ((aZ.getD 0):Int)] []else k (.exit 0) [.str s,.bool z,.I aI,.I aI] []else none else none;bif decide (aO<aI)then bif inb aO s.length then bif !u' az then bif az !=45 then bif az !=95 then bif az !=46 then bif az !=43 then bif az !=61 then k .ret [.str s,.bool false,.I aI,.I aO] []else av else av else av else av else av else av else none else k (.exit 0) [.str s,.bool z,.I aI,.I aO] []) ?_;conv=>zeta
  rw[<-ai];by_cases aL:j<n
  .obtain⟨aU,bc,bw,bQ,bN⟩:=ew aL an;have j9:inb (j:Int) s.length=true:=ie al al;have mD:decide ((0:Int)<=(n:Int)/\(n:Int)<=(s.length:Int)/\s.length<=9223372036854775807)=true:=aS ⟨d1,d2,d3⟩;rw[j2 _ _ _ _ _ aL];have lV:Db s j=(!u' (b8 s j)&&(b8 s j !=45&&(b8 s j !=95&&(b8 s j !=46&&(b8 s j !=43&&b8 s j !=61))))):=rfl;rw[lV];have a0:(((s.getD j 0).toNat:Nat):Int)=b8 s j:=rfl;simp only[aU,bw,bQ,bN,j9,mD,a0,b4,bK,nk];cases u' (b8 s j)<;>cases(b8 s j !=45)<;>cases(b8 s j !=95)<;>cases(b8 s j !=46)<;>cases(b8 s j !=43)<;>cases(b8 s j !=61)<;>rfl
  .obtain rfl:j=n:=al;exact jo
 .cases h
def qK(s:List UInt8):Bool:= !(bx (Db s) (hL s) 0).isSome&&(ef (hL s:Nat) 1 60&&(decide (hL s<s.length)&&F8 (s.drop (hL s+1))))
def KO:List AV->a6 AV
 |[.str s]=>.bt (ee s.length) (.leaf (.bool (qK s)))
 |_=>.no
def ap3:SumOK prog 99 (aK KO)/\b5 (aK KO):=by
 refine iH (K:=[(3,K7)]) (b:=abH) (l:=K7) abG Tryz.func99 aG aG aq8 λaj aA k r h=>?_;unfold KO at h;split at h
 .rename_i s;obtain⟨aa,ai⟩:=bz h;refine bn (b:=have az:=((hL s):Int);have aF:=(i64.wrap (az+(1:Int)));have aI:=(s.length:Int);have av:=(List.take (aI.toNat-aF.toNat) (List.drop aF.toNat s));bif small s.length then bif decide ((0:Int)<=az/\az<=aI/\s.length<=9223372036854775807)&&bl az (0:Int) az.toNat then bif(bx (Db s) az.toNat 0).isSome then k (.bool false)else bif ef az (1:Int) (60:Int)then bif decide (az<aI)then bif slb aF aI s.length then bif small av.length then k (.bool (F8 av))else none else none else k (.bool false)else k (.bool false)else none else none) ?_;conv=>zeta
  have ay:=bH aa;have hle:=ZF s;have w1:i64.wrap ((hL s:Int)+1)=((hL s+1:Nat):Int):=by rw[mL _ al al];omega
  rw[w1];simp only[bK];refine aT (a' (aS al)) (aT (a' (aV (aS ⟨al,al,al⟩) (e1 (aS al)))) ?_);rw[<-ai];unfold qK;cases(bx (Db s) (hL s) 0).isSome
  .cases ef (hL s:Nat) 1 60
   .rfl
   .by_cases ao:hL s<s.length
    .have j9:List.take (s.length-(hL s+1)) (s.drop (hL s+1))=s.drop (hL s+1):=nn Bl;rw[aS ao,aS (by omega:((hL s:Nat):Int)<(s.length:Int)),j9];refine aT (fP rfl) (aT (a' rfl) (aT (a' rfl) (aT (a' (mB al al al)) (aT (a' (aS Bl)) ?_))));rfl
    .rw[cZ ao,cZ (by omega:¬((hL s:Nat):Int)<(s.length:Int))];rfl
  .rfl
 .cases h
def ll(c:Int):Bool:=c==32||c==9
def FT:List AV->a6 AV
 |[.int .u8 c]=>.leaf (.bool (ll c))
 |_=>.no
def aaz:SumOK prog 102 (aK FT)/\b5 (aK FT):=by
 refine eJ bV Tryz.func102 aG λaj aA k r h=>?_;unfold FT at h;split at h
 .rename_i c;have ai:=h;refine bn (b:=bif c==32 then k (.bool true)else k (.bool (c==9))) ?_;rw[<-ai];unfold ll;cases c==32<;>rfl
 .cases h
def okB(t:List UInt8)(L:Int)(i:Nat):Bool:=decide ((i:Int)>=L)&&(ll (b8 t i)&& !ll (b8 t (i-1)))
def ei(t:List UInt8)(L:Int):Nat->Nat×Nat
 |0=>(0,0)
 |i+1=>bif okB t L (i+1)then(i+1,i)else ei t L i
def abJ(t:List UInt8)(L:Int):∀i,(ei t L i).1<=i/\(ei t L i).2<=i
 |0=>⟨dc _,dc _⟩
 |i+1=>by
  unfold ei;cases okB t L (i+1)
  .have:=abJ t L i;exact⟨by simp only[cU];omega,by simp only[cU];omega⟩
  .exact⟨dc _,Nat.le_succ _⟩
noncomputable def K8:Env:={pure:=[(102,aK FT)]}
def K9:aM prog K8:=aM.br bV aaz
noncomputable def K':Code:=((Tryz.f64.body.map c7).getD []).headD .skip
noncomputable def Ro:Code:=(c7 K').headD .skip
noncomputable def Rp:Code:=(c7 K').tail.headD .skip
def abK:List AV->List (Option Row)->a6 cy
 |[.str t,.int .i64 L,.own q,.int .i64 c,.int .i64 i],[some (.arr false .str 9 out none)]=>.bt (Nat.beq q 9990&&decide (78<t.length/\t.length<=1000000/\0<=i/\i<=78/\0<=c))
  (.leaf (.exit 2,[.str t,.int .i64 L,.own 9990,.int .i64 (bif c==0 then((ei t L i.toNat).1:Int)else c),.int .i64 (bif c==0 then((ei t L i.toNat).2:Int)else i)],[some (.arr false .str 9 out none)]))
 |_,_=>.no
def F9:Ev.Loop:=⟨{len:=90,dr:=[5,6,7,8,9],rows:=[9990]},dP abK⟩
def aq9(vs:List AV)(_:List (Option Row)):Nat:=match vs with
 |[_,_,_,.int _ c,.int _ i]=>bif c==0 then i.toNat+1 else 0
 |_=>0
def abL(K:List (Nat×Ev.Loop)):dj prog K8 K Ro F9:=by
 refine ed K9.dX rfl (ch.nil aG) aq9 (λaj vs rs k r h=>?_);unfold abK at h;split at h
 .rename_i t L q c i out;obtain⟨aa,ai⟩:=bz h;rw[ba]at aa;obtain⟨aH,aX⟩:=aa;obtain⟨d1,d2,d3,d4,d5⟩:=bH aX;obtain rfl:=cH aH;obtain⟨j,rfl⟩:∃j:Nat,i=j:=⟨i.toNat,al⟩;rw[bK]at ai;refine bn (b:=bif decide ((j:Int)>(0:Int))then bif c==0 then bif decide ((j:Int)>=L)then bif inb (j:Int) t.length then bif ll ((t.getD j (0:UInt8)).toNat:Int)then bif inb (i64.wrap ((j:Int)-(1:Int))) t.length then bif !ll ((t.getD (i64.wrap ((j:Int)-(1:Int))).toNat (0:UInt8)).toNat:Int)then bif decide ((bif(j:Int)==0 then(i64.wrap ((j:Int)-(1:Int))).toNat+1 else 0)<bif c==0 then j+1 else 0)then bif Nat.beq 9990 9990&&decide (78<t.length/\t.length<=1000000/\(0:Int)<=i64.wrap ((j:Int)-(1:Int))/\i64.wrap ((j:Int)-(1:Int))<=(78:Int)/\(0:Int)<=(j:Int))then k (.exit 2) [.str t,.I L,.own 9990,.I (bif(j:Int)==0 then((ei t L (i64.wrap ((j:Int)-(1:Int))).toNat).fst:Int)else(j:Int)),.I (bif(j:Int)==0 then((ei t L (i64.wrap ((j:Int)-(1:Int))).toNat).snd:Int)else i64.wrap ((j:Int)-(1:Int)))] [some (.arr false .str 9 out none)]else none else none else bif decide ((bif c==0 then(i64.wrap ((j:Int)-(1:Int))).toNat+1 else 0)<bif c==0 then j+1 else 0)then bif Nat.beq 9990 9990&&decide (78<t.length/\t.length<=1000000/\(0:Int)<=i64.wrap ((j:Int)-(1:Int))/\i64.wrap ((j:Int)-(1:Int))<=(78:Int)/\(0:Int)<=c)then k (.exit 2) [.str t,.I L,.own 9990,.I (bif c==0 then((ei t L (i64.wrap ((j:Int)-(1:Int))).toNat).fst:Int)else c),.I (bif c==0 then((ei t L (i64.wrap ((j:Int)-(1:Int))).toNat).snd:Int)else i64.wrap ((j:Int)-(1:Int)))] [some (.arr false .str 9 out none)]else none else none else none else bif decide ((bif c==0 then(i64.wrap ((j:Int)-(1:Int))).toNat+1 else 0)<bif c==0 then j+1 else 0)then bif Nat.beq 9990 9990&&decide (78<t.length/\t.length<=1000000/\(0:Int)<=i64.wrap ((j:Int)-(1:Int))/\i64.wrap ((j:Int)-(1:Int))<=(78:Int)/\(0:Int)<=c)then k (.exit 2) [.str t,.I L,.own 9990,.I (bif c==0 then((ei t L (i64.wrap ((j:Int)-(1:Int))).toNat).fst:Int)else c),.I (bif c==0 then((ei t L (i64.wrap ((j:Int)-(1:Int))).toNat).snd:Int)else i64.wrap ((j:Int)-(1:Int)))] [some (.arr false .str 9 out none)]else none else none else none else bif decide ((bif c==0 then(i64.wrap ((j:Int)-(1:Int))).toNat+1 else 0)<bif c==0 then j+1 else 0)then bif Nat.beq 9990 9990&&decide (78<t.length/\t.length<=1000000/\(0:Int)<=i64.wrap ((j:Int)-(1:Int))/\i64.wrap ((j:Int)-(1:Int))<=(78:Int)/\(0:Int)<=c)then k (.exit 2) [.str t,.I L,.own 9990,.I (bif c==0 then((ei t L (i64.wrap ((j:Int)-(1:Int))).toNat).fst:Int)else c),.I (bif c==0 then((ei t L (i64.wrap ((j:Int)-(1:Int))).toNat).snd:Int)else i64.wrap ((j:Int)-(1:Int)))] [some (.arr false .str 9 out none)]else none else none else k (.exit 2) [.str t,.I L,.own 9990,.I c,.I (j:Int)] [some (.arr false .str 9 out none)]else k (.exit 2) [.str t,.I L,.own 9990,.I c,.I (j:Int)] [some (.arr false .str 9 out none)]) ?_;rw[<-ai];by_cases ri:c=0
  .subst ri
   match j,d3,d4 with
   |0,_,_=>rfl
   |i+1,_,d4=>
    have w1:i64.wrap (((i+1:Nat):Int)-1)=(i:Nat):=by rw[lT _ al al];omega
    have hu:ei t L (i+1)=bif okB t L (i+1)then(i+1,i)else ei t L i:=rfl;have lV:okB t L (i+1)=(decide (((i+1:Nat):Int)>=L)&&(ll (b8 t (i+1))&& !ll (b8 t i))):=rfl;have a0:(((t.getD (i+1) 0).toNat:Nat):Int)=b8 t (i+1):=rfl;have bJ:(((t.getD i 0).toNat:Nat):Int)=b8 t i:=rfl;have i1:inb ((i+1:Nat):Int) t.length=true:=ie al al;have i2:inb (i:Int) t.length=true:=ie al al;have m1:decide (i+1<i+1+1)=true:=aS al;have m2:decide (0<i+1+1)=true:=aS al;have g1:(Nat.beq 9990 9990&&decide (78<t.length/\t.length<=1000000/\(0:Int)<=(i:Int)/\(i:Int)<=78/\(0:Int)<=0))=true:=aV (b9 _) (aS ⟨d1,d2,al,al,al⟩);have g2:(Nat.beq 9990 9990&&decide (78<t.length/\t.length<=1000000/\(0:Int)<=(i:Int)/\(i:Int)<=78/\(0:Int)<=((i+1:Nat):Int)))=true:=aV (b9 _) (aS ⟨d1,d2,al,al,al⟩);have z0:((0:Int)==0)=true:=rfl;have dV:(((i+1:Nat):Int)==0)=false:=sZ al;rw[hu,lV];refine aT (a' (aS al)) ?_;simp only[w1,a0,bJ,i1,i2,z0,dV,bK,b4,cU,m1,m2,g1,g2];cases decide (((i+1:Nat):Int)>=L)<;>cases ll (b8 t (i+1))<;>cases ll (b8 t i)<;>rfl
  .have dV:(c==0)=false:=sZ ri;rw[dV];cases decide ((j:Int)>0)<;>rfl
 .cases h
def AI(t:List UInt8)(L:Int)(i:Nat):Option Nat:=bx (okB t L) t.length i
def iJ(t:List UInt8)(L:Int)(i:Nat):Int:=((AI t L i).getD 0:Nat)
def jI(t:List UInt8)(L:Int)(i:Nat):Int:=match AI t L i with
 |some q=>(q:Int)+1
 |none=>(t.length:Int)
def abM:List AV->List (Option Row)->a6 cy
 |[.str t,.int .i64 L,.own q,.int .i64 c,.int .i64 i],[some (.arr false .str 9 out none)]=>.bt (Nat.beq q 9990&&decide (t.length<=1000000/\1<=i/\i<=t.length/\0<=c))
  (.leaf (.exit 4,[.str t,.int .i64 L,.own 9990,.int .i64 (bif c==0 then iJ t L i.toNat else c),.int .i64 (bif c==0 then jI t L i.toNat else i)],[some (.arr false .str 9 out none)]))
 |_,_=>.no
def F':Ev.Loop:=⟨{len:=90,dr:=[5,6,7,8,10],rows:=[9990]},dP abM⟩
def ara(vs:List AV)(_:List (Option Row)):Nat:=match vs with
 |[.str t,_,_,.int _ c,.int _ i]=>bif c==0 then t.length+1-i.toNat else 0
 |_=>0
def abN(K:List (Nat×Ev.Loop)):dj prog K8 K Rp F':=by
 refine ed K9.dX rfl (ch.nil aG) ara (λaj vs rs k r h=>?_);unfold abM at h;split at h
 .rename_i t L q c i out;obtain⟨aa,ai⟩:=bz h;rw[ba]at aa;obtain⟨aH,aX⟩:=aa;obtain⟨d1,d2,d3,d4⟩:=bH aX;obtain rfl:=cH aH;obtain⟨j,rfl⟩:∃j:Nat,i=j:=⟨i.toNat,al⟩;rw[bK]at ai;refine bn (b:=bif decide ((j:Int)<(t.length:Int))then bif c==0 then bif decide ((j:Int)>=L)then bif inb (j:Int) t.length then bif ll ((t.getD j (0:UInt8)).toNat:Int)then bif inb (i64.wrap ((j:Int)-(1:Int))) t.length then bif !ll ((t.getD (i64.wrap ((j:Int)-(1:Int))).toNat (0:UInt8)).toNat:Int)then bif decide ((bif(j:Int)==0 then t.length+1-(i64.wrap ((j:Int)+(1:Int))).toNat else 0)<bif c==0 then t.length+1-j else 0)then bif Nat.beq 9990 9990&&decide (t.length<=1000000/\(1:Int)<=i64.wrap ((j:Int)+(1:Int))/\i64.wrap ((j:Int)+(1:Int))<=(t.length:Int)/\(0:Int)<=(j:Int))then k (.exit 4) [.str t,.I L,.own 9990,.I (bif(j:Int)==0 then iJ t L (i64.wrap ((j:Int)+(1:Int))).toNat else(j:Int)),.I (bif(j:Int)==0 then jI t L (i64.wrap ((j:Int)+(1:Int))).toNat else i64.wrap ((j:Int)+(1:Int)))] [some (.arr false .str 9 out none)]else none else none else bif decide ((bif c==0 then t.length+1-(i64.wrap ((j:Int)+(1:Int))).toNat else 0)<bif c==0 then t.length+1-j else 0)then bif Nat.beq 9990 9990&&decide (t.length<=1000000/\(1:Int)<=i64.wrap ((j:Int)+(1:Int))/\i64.wrap ((j:Int)+(1:Int))<=(t.length:Int)/\(0:Int)<=c)then k (.exit 4) [.str t,.I L,.own 9990,.I (bif c==0 then iJ t L (i64.wrap ((j:Int)+(1:Int))).toNat else c),.I (bif c==0 then jI t L (i64.wrap ((j:Int)+(1:Int))).toNat else i64.wrap ((j:Int)+(1:Int)))] [some (.arr false .str 9 out none)]else none else none else none else bif decide ((bif c==0 then t.length+1-(i64.wrap ((j:Int)+(1:Int))).toNat else 0)<bif c==0 then t.length+1-j else 0)then bif Nat.beq 9990 9990&&decide (t.length<=1000000/\(1:Int)<=i64.wrap ((j:Int)+(1:Int))/\i64.wrap ((j:Int)+(1:Int))<=(t.length:Int)/\(0:Int)<=c)then k (.exit 4) [.str t,.I L,.own 9990,.I (bif c==0 then iJ t L (i64.wrap ((j:Int)+(1:Int))).toNat else c),.I (bif c==0 then jI t L (i64.wrap ((j:Int)+(1:Int))).toNat else i64.wrap ((j:Int)+(1:Int)))] [some (.arr false .str 9 out none)]else none else none else none else bif decide ((bif c==0 then t.length+1-(i64.wrap ((j:Int)+(1:Int))).toNat else 0)<bif c==0 then t.length+1-j else 0)then bif Nat.beq 9990 9990&&decide (t.length<=1000000/\(1:Int)<=i64.wrap ((j:Int)+(1:Int))/\i64.wrap ((j:Int)+(1:Int))<=(t.length:Int)/\(0:Int)<=c)then k (.exit 4) [.str t,.I L,.own 9990,.I (bif c==0 then iJ t L (i64.wrap ((j:Int)+(1:Int))).toNat else c),.I (bif c==0 then jI t L (i64.wrap ((j:Int)+(1:Int))).toNat else i64.wrap ((j:Int)+(1:Int)))] [some (.arr false .str 9 out none)]else none else none else k (.exit 4) [.str t,.I L,.own 9990,.I c,.I (j:Int)] [some (.arr false .str 9 out none)]else k (.exit 4) [.str t,.I L,.own 9990,.I c,.I (j:Int)] [some (.arr false .str 9 out none)]) ?_;rw[<-ai];by_cases ri:c=0
  .subst ri;by_cases aL:j<t.length
   .have w1:i64.wrap ((j:Int)-1)=((j-1:Nat):Int):=by rw[lT _ al al];omega
    have ga:i64.wrap ((j:Int)+1)=((j+1:Nat):Int):=by rw[lT _ al al];omega
    have hu:AI t L j=bif okB t L j then some j else AI t L (j+1):=XQ _ _ _ aL;have lV:okB t L j=(decide ((j:Int)>=L)&&(ll (b8 t j)&& !ll (b8 t (j-1)))):=rfl;have a0:(((t.getD j 0).toNat:Nat):Int)=b8 t j:=rfl;have bJ:(((t.getD (j-1) 0).toNat:Nat):Int)=b8 t (j-1):=rfl;have i1:inb (j:Int) t.length=true:=ie al al;have i2:inb ((j-1:Nat):Int) t.length=true:=ie al al;have m1:decide (t.length+1-(j+1)<t.length+1-j)=true:=aS al;have m2:decide (0<t.length+1-j)=true:=aS al;have g1:(Nat.beq 9990 9990&&decide (t.length<=1000000/\(1:Int)<=((j+1:Nat):Int)/\((j+1:Nat):Int)<=(t.length:Int)/\(0:Int)<=0))=true:=aV (b9 _) (aS ⟨d1,al,al,al⟩);have g2:(Nat.beq 9990 9990&&decide (t.length<=1000000/\(1:Int)<=((j+1:Nat):Int)/\((j+1:Nat):Int)<=(t.length:Int)/\(0:Int)<=(j:Int)))=true:=aV (b9 _) (aS ⟨d1,al,al,al⟩);have z0:((0:Int)==0)=true:=rfl;have dV:((j:Int)==0)=false:=sZ al;have bp:iJ t L j=bif okB t L j then(j:Int)else iJ t L (j+1):=by unfold iJ;rw[hu];cases okB t L j<;>rfl
    have hi:jI t L j=bif okB t L j then(j:Int)+1 else jI t L (j+1):=by unfold jI;rw[hu];cases okB t L j<;>rfl
    rw[bp,hi,lV];refine aT (a' (aS al)) ?_;simp only[w1,ga,a0,bJ,i1,i2,z0,dV,bK,b4,cU,m1,m2,g1,g2];cases decide ((j:Int)>=L)<;>cases ll (b8 t j)<;>cases ll (b8 t (j-1))<;>rfl
   .obtain rfl:j=t.length:=al;have hu:AI t L t.length=none:=XR _ _ _ (dc _);have bp:iJ t L t.length=0:=by unfold iJ;rw[hu];rfl
    have hi:jI t L t.length=t.length:=by unfold jI;rw[hu]
    rw[bp,hi];exact aT (fP (cZ al)) rfl
  .have dV:(c==0)=false:=sZ ri;rw[dV];cases decide ((j:Int)<(t.length:Int))<;>rfl
 .cases h
def ki(t:List UInt8)(L:Int):Nat:=bif(ei t L 78).1==0 then(AI t L 79).getD 0 else(ei t L 78).1
def abO(t:List UInt8)(L:Int)(h:78<t.length):ki t L<=t.length:=by
 unfold ki;cases(ei t L 78).1==0
 .have:=abJ t L 78;simp only[cU];omega
 .simp only[b4];cases aH:AI t L 79 with
  |some q=>exact Nat.le_of_lt (sA aH).2.1
  |none=>exact iM _
def kz(t:List UInt8)(L:Int):List (List UInt8)×(List UInt8×Int):=if h:78<t.length/\0<ki t L then(t.take (ki t L)::(kz (t.drop (ki t L)) 1).1,(kz (t.drop (ki t L)) 1).2)else([],(t,L))
termination_by t.length
decreasing_by
 all_goals
  rw[mJ]
  omega
def abP{t:List UInt8}{L:Int}(af:78<t.length)(ao:0<ki t L):kz t L=(t.take (ki t L)::(kz (t.drop (ki t L)) 1).1,(kz (t.drop (ki t L)) 1).2):=by rw[kz,dif_pos ⟨af,ao⟩]
def La{t:List UInt8}{L:Int}(h:¬(78<t.length/\0<ki t L)):kz t L=([],(t,L)):=by rw[kz,dif_neg h]
def abQ:List AV->List (Option Row)->a6 cy
 |[.str t,.int .i64 L,.own q],[some (.arr false .str 9 out none)]=>.bt (Nat.beq q 9990&&decide (t.length<=100000/\out.length+t.length<=1000000))
  (.leaf (.exit 0,[.str (kz t L).2.1,.int .i64 (kz t L).2.2,.own 9990],[some (.arr false .str 9 (out++(kz t L).1.map AV.str) none)]))
 |_,_=>.no
def Lb:Ev.Loop:=⟨{len:=90,dr:=[5,6,7],rows:=[9990],homes:=[(7,9990,9)]},dP abQ⟩
def arb(vs:List AV)(_:List (Option Row)):Nat:=match vs with
 |[.str t,_,_]=>t.length
 |_=>0
def arc:dj prog K8 [(4,Lb),(7,F9),(12,F')] K' Lb:=by
 refine ed K9.dX rfl (ch.all (bs:=[Ro,Rp]) aG (λb ag=>?_)) arb (λaj vs rs k r h=>?_)
 .simp only[gv,mh,mi]at ag;rcases ag with rfl|rfl
  .exact⟨F9,aG,abL _⟩
  .exact⟨F',aG,abN _⟩
 unfold abQ at h;split at h
 .rename_i t L q out;obtain⟨aa,ai⟩:=bz h;rw[ba]at aa;obtain⟨aH,aX⟩:=aa;obtain⟨d1,d2⟩:=bH aX;obtain rfl:=cH aH;refine bn (b:=bif decide ((t.length:Int)>(78:Int))then bif Nat.beq 9990 9990&&decide (78<t.length/\t.length<=1000000/\(0:Int)<=(78:Int)/\(78:Int)<=(78:Int)/\(0:Int)<=(0:Int))then bif Nat.beq 9990 9990&&decide (t.length<=1000000/\(1:Int)<=(79:Int)/\(79:Int)<=(t.length:Int)/\(0:Int)<=bif(0:Int)==0 then((ei t L (Int.toNat (78:Int))).fst:Int)else(0:Int))then bif(bif(bif(0:Int)==0 then((ei t L (Int.toNat (78:Int))).fst:Int)else(0:Int))==0 then iJ t L (Int.toNat (79:Int))else bif(0:Int)==0 then((ei t L (Int.toNat (78:Int))).fst:Int)else(0:Int))==0 then k (.exit 0) [.str t,.I L,.own 9990] [some (.arr false .str 9 out none)]else bif slb (0:Int) (bif(bif(0:Int)==0 then((ei t L (Int.toNat (78:Int))).fst:Int)else(0:Int))==0 then iJ t L (Int.toNat (79:Int))else bif(0:Int)==0 then((ei t L (Int.toNat (78:Int))).fst:Int)else(0:Int)) t.length then bif roomB (out.length+[AV.str (List.take ((bif(bif(0:Int)==0 then((ei t L (Int.toNat (78:Int))).fst:Int)else(0:Int))==0 then iJ t L (Int.toNat (79:Int))else bif(0:Int)==0 then((ei t L (Int.toNat (78:Int))).fst:Int)else(0:Int)).toNat-Int.toNat (0:Int)) (List.drop 0 t))].length) (prog.bytesOf 9)then bif slb (bif(bif(0:Int)==0 then((ei t L (Int.toNat (78:Int))).fst:Int)else(0:Int))==0 then iJ t L (Int.toNat (79:Int))else bif(0:Int)==0 then((ei t L (Int.toNat (78:Int))).fst:Int)else(0:Int)) (t.length:Int) t.length then bif decide ((List.take ((t.length:Int).toNat-(bif(bif(0:Int)==0 then((ei t L (Int.toNat (78:Int))).fst:Int)else(0:Int))==0 then iJ t L (Int.toNat (79:Int))else bif(0:Int)==0 then((ei t L (Int.toNat (78:Int))).fst:Int)else(0:Int)).toNat) (List.drop (bif(bif(0:Int)==0 then((ei t L (Int.toNat (78:Int))).fst:Int)else(0:Int))==0 then iJ t L (Int.toNat (79:Int))else bif(0:Int)==0 then((ei t L (Int.toNat (78:Int))).fst:Int)else(0:Int)).toNat t)).length<t.length)then bif(9990:Nat).beq 9990&&decide ((List.take ((t.length:Int).toNat-(bif(bif(0:Int)==0 then((ei t L (Int.toNat (78:Int))).fst:Int)else(0:Int))==0 then iJ t L (Int.toNat (79:Int))else bif(0:Int)==0 then((ei t L (Int.toNat (78:Int))).fst:Int)else(0:Int)).toNat) (List.drop (bif(bif(0:Int)==0 then((ei t L (Int.toNat (78:Int))).fst:Int)else(0:Int))==0 then iJ t L (Int.toNat (79:Int))else bif(0:Int)==0 then((ei t L (Int.toNat (78:Int))).fst:Int)else(0:Int)).toNat t)).length<=100000/\(out++[AV.str (List.take ((bif(bif(0:Int)==0 then((ei t L (Int.toNat (78:Int))).fst:Int)else(0:Int))==0 then iJ t L (Int.toNat (79:Int))else bif(0:Int)==0 then((ei t L (Int.toNat (78:Int))).fst:Int)else(0:Int)).toNat-Int.toNat (0:Int)) (List.drop 0 t))]).length+(List.take ((t.length:Int).toNat-(bif(bif(0:Int)==0 then((ei t L (Int.toNat (78:Int))).fst:Int)else(0:Int))==0 then iJ t L (Int.toNat (79:Int))else bif(0:Int)==0 then((ei t L (Int.toNat (78:Int))).fst:Int)else(0:Int)).toNat) (List.drop (bif(bif(0:Int)==0 then((ei t L (Int.toNat (78:Int))).fst:Int)else(0:Int))==0 then iJ t L (Int.toNat (79:Int))else bif(0:Int)==0 then((ei t L (Int.toNat (78:Int))).fst:Int)else(0:Int)).toNat t)).length<=1000000)then k (.exit 0) [.str (kz (List.take ((t.length:Int).toNat-(bif(bif(0:Int)==0 then((ei t L (Int.toNat (78:Int))).fst:Int)else(0:Int))==0 then iJ t L (Int.toNat (79:Int))else bif(0:Int)==0 then((ei t L (Int.toNat (78:Int))).fst:Int)else(0:Int)).toNat) (List.drop (bif(bif(0:Int)==0 then((ei t L (Int.toNat (78:Int))).fst:Int)else(0:Int))==0 then iJ t L (Int.toNat (79:Int))else bif(0:Int)==0 then((ei t L (Int.toNat (78:Int))).fst:Int)else(0:Int)).toNat t)) (1:Int)).snd.fst,.I (kz (List.take ((t.length:Int).toNat-(bif(bif(0:Int)==0 then((ei t L (Int.toNat (78:Int))).fst:Int)else(0:Int))==0 then iJ t L (Int.toNat (79:Int))else bif(0:Int)==0 then((ei t L (Int.toNat (78:Int))).fst:Int)else(0:Int)).toNat) (List.drop (bif(bif(0:Int)==0 then((ei t L (Int.toNat (78:Int))).fst:Int)else(0:Int))==0 then iJ t L (Int.toNat (79:Int))else bif(0:Int)==0 then((ei t L (Int.toNat (78:Int))).fst:Int)else(0:Int)).toNat t)) (1:Int)).snd.snd,.own 9990] [some (.arr false .str 9 (out++[AV.str (List.take ((bif(bif(0:Int)==0 then((ei t L (Int.toNat (78:Int))).fst:Int)else(0:Int))==0 then iJ t L (Int.toNat (79:Int))else bif(0:Int)==0 then((ei t L (Int.toNat (78:Int))).fst:Int)else(0:Int)).toNat-Int.toNat (0:Int)) (List.drop 0 t))]++List.map AV.str (kz (List.take ((t.length:Int).toNat-(bif(bif(0:Int)==0 then((ei t L (Int.toNat (78:Int))).fst:Int)else(0:Int))==0 then iJ t L (Int.toNat (79:Int))else bif(0:Int)==0 then((ei t L (Int.toNat (78:Int))).fst:Int)else(0:Int)).toNat) (List.drop (bif(bif(0:Int)==0 then((ei t L (Int.toNat (78:Int))).fst:Int)else(0:Int))==0 then iJ t L (Int.toNat (79:Int))else bif(0:Int)==0 then((ei t L (Int.toNat (78:Int))).fst:Int)else(0:Int)).toNat t)) (1:Int)).fst) none)]else none else none else none else none else none else none else none else k (.exit 0) [.str t,.I L,.own 9990] [some (.arr false .str 9 out none)]) ?_;rw[<-ai];by_cases aL:78<t.length
  .have e8:(bif(bif(0:Int)==0 then(↑(ei t L (Int.toNat (78:Int))).fst:Int)else(0:Int))==0 then iJ t L (Int.toNat (79:Int))else bif(0:Int)==0 then(↑(ei t L (Int.toNat (78:Int))).fst:Int)else(0:Int))=((ki t L:Nat):Int):=by
     show(bif(((ei t L 78).1:Nat):Int)==0 then iJ t L 79 else(((ei t L 78).1:Nat):Int))=_;unfold ki iJ;by_cases a7:(ei t L 78).1=0
     .rw[a7];rfl
     .rw[sZ a7,sZ (by omega:(((ei t L 78).1:Nat):Int)≠0)];rfl
   rw[e8];have hle:=abO t L aL;refine aT (a' (aS al)) (aT (a' (aV (b9 _) (aS ⟨aL,al,al,al,al⟩))) (aT (a' (aV (b9 _) (aS ⟨al,al,al,?_⟩))) ?_))
   .show(0:Int)<=(((ei t L 78).1:Nat):Int);omega
   by_cases a7:ki t L=0
   .rw[La (t:=t) (L:=L) al,a7];refine aT (a' rfl) ?_;exact Ts
   .have aU:List.take (t.length-ki t L) (t.drop (ki t L))=t.drop (ki t L):=nn S4;have b1:(t.drop (ki t L)).length=t.length-ki t L:=mJ;simp only[bK,aU];refine aT (fP (sZ al)) (aT (a' (mB al al al)) (aT (a' (hW ps (bH aG))) (aT (a' (mB al al al)) (aT (a' (aS al)) (aT (a' (aV (b9 _) (aS ⟨al,s3⟩))) ?_)))));rw[abP (t:=t) (L:=L) aL al];show k _ _ [some (.arr false .str 9 (out++[.str (t.take (ki t L))]++_) none)]=k _ _ [some (.arr false .str 9 (out++(AV.str (t.take (ki t L))::_)) none)];rw[nm];rfl
  .rw[La (t:=t) (L:=L) al];refine aT (fP (cZ al)) ?_;exact Ts
 .cases h
def pt(a b:List UInt8):List UInt8:=a++[58,32]++b
def kh(a b:List UInt8):List AV:=(kz (pt a b) ((a.length:Int)+2)).1.map AV.str++[.str (kz (pt a b) ((a.length:Int)+2)).2.1]
def FR:List AV->a6 AV
 |[.str a,.str b]=>.bt (decide (a.length+b.length<=50000)) (.leaf (.ab .str (kh a b)))
 |_=>.no
def Ga:∀(n:Nat)(t:List UInt8)(L:Int),t.length<=n->((kz t L).1.map List.length).sum+(kz t L).2.1.length=t.length/\(kz t L).1.length<=t.length
 |0,t,L,h=>by rw[La (t:=t) (L:=L) al];simp
 |n+1,t,L,h=>by
  by_cases aa:78<t.length/\0<ki t L
  .rw[abP (t:=t) (L:=L) aa.1 aa.2];have hle:=abO t L aa.1;have ay:(t.drop (ki t L)).length=t.length-ki t L:=mJ;obtain⟨af,ao⟩:=Ga n (t.drop (ki t L)) 1 al;refine⟨?_,?_⟩
   .simp only[iZ,List.sum_cons,wQ];omega
   .simp only[e5];omega
  .rw[La (t:=t) (L:=L) aa];simp
def aaI(a b:List UInt8):(kh a b).length<=a.length+b.length+3:=by have h:=(Ga _ (pt a b) ((a.length:Int)+2) (dc _)).2;have ay:(pt a b).length=a.length+2+b.length:=GO;unfold kh;rw[fu,g',qR];omega
def aaA:SumOK prog 64 (aK FR)/\b5 (aK FR):=by
 refine xZ (K:=[(4,Lb),(7,F9),(12,F')]) K9 Tryz.func64 (bs:=[K',Ro,Rp]) aG (λb ag=>?_) λaj aA k r h=>?_
 .simp only[gv,mh,mi]at ag;rcases ag with rfl|rfl|rfl
  .exact⟨Lb,aG,arc⟩
  .exact⟨F9,aG,abL _⟩
  .exact⟨F',aG,abN _⟩
 unfold FR at h;split at h
 .rename_i a b;obtain⟨aa,ai⟩:=bz h;have aa:=bH aa;refine bn (b:=have az:=([58,32]:List UInt8);have av:=(kz (a++az++b) (i64.wrap ((a.length:Int)+(2:Int))));bif lenB (a.length+az.length)then bif lenB ((a++az).length+b.length)then bif(9990:Nat).beq 9990&&decide ((a++az++b).length<=100000/\([]:List AV).length+(a++az++b).length<=1000000)then bif roomB (([]++List.map AV.str av.fst).length+[AV.str av.snd.fst].length) (prog.bytesOf 9)then k (.ab .str ([]++List.map AV.str av.fst++[AV.str av.snd.fst]))else none else none else none else none) ?_;conv=>zeta
  have w1:i64.wrap ((a.length:Int)+2)=(a.length:Int)+2:=lT _ al al;have ay:(pt a b).length=a.length+2+b.length:=GO;have kr:(a++([58,32]:List UInt8)++b).length=a.length+2+b.length:=ay;have ao:=(Ga _ (pt a b) ((a.length:Int)+2) (dc _)).2;have a1:(kz (a++([58,32]:List UInt8)++b) ((a.length:Int)+2)).1.length<=(pt a b).length:=ao;rw[w1];refine aT (a' (aS yO)) (aT (a' (aS SF)) (aT (a' (aV (b9 _) (aS ⟨al,GY⟩))) (aT (a' (hW (by rw[pj,g',qR];omega) (bH aG))) ?_)));exact ai
 .cases h
end Go.Proofs.YtijdnecnjenleaaGreatDoor
namespace Go.Ev
open Go.RowKit
section
variable{P:Program}{w:World}
def abR(t u ty e:TypeId)(i:TypeInfo)(z:Value)(aQ:P.underlying t=some (.slice e)){k cl:IntKind}(rH:P.underlying u=some (.int cl))(hi:P.info? e=some i)(bp:i.zero=some z)(dJ:0<i.size)
  (A:Option Addr)(c8 sCap n:Nat)(kN:List Value)(l8:kN.length=c8*i.size)(holds:∀b,A=some b->∀j v,kN[j]?=some v->w.cell? (b.add j)=some v)(bq:A=none->c8=0)
  (aB:sCap<c8+n)(aJ:0<n)(qs:c8+n<=4611686018427387904)(ag:n*i.bytes<=281474976710656)(jL:Builtin.nextslicecap (c8+n) sCap*i.bytes<=281474976710656):
  (Builtin.append_ #[t,u] ty #[.slice A c8 sCap,.int k (n:Int)]).run P w=
   .ok (.slice (some ⟨w.heap.size,0,none⟩) (c8+n) (grownCap w (c8+n) sCap e))
    (w.drew.alloc (.cells ((kN++(Builtin.zeroCells z.cells n).toList).toArray++Builtin.zeroCells z.cells (grownCap w (c8+n) sCap e-(c8+n))) e)):=by
 have Gb:¬(c8+n<=sCap):=al
 have Gc:¬(9223372036854775807<((c8:Int)+(n:Int))):=al
 have Gd:¬(281474976710656<Builtin.nextslicecap (c8+n) sCap*i.bytes):=al
 have ard:IntKind.i64.wrap (n:Int)=n:=ahg n al
 have Rq:¬((n:Int)<0):=al
 have vT:¬((281474976710656:Int)<(n:Int)*(i.bytes:Int)):=by have:=Int.ofNat_le.2 ag;rw[Int.natCast_mul]at this;exact Int.not_lt.2 this
 have hU:¬(n*i.size=0):=by intro h;rcases Nat.mul_eq_zero.1 h with h|h<;>omega
 have qk:(Builtin.firstCells i.size c8 (.slice A c8 sCap)).run P w.drew=.ok kN.toArray w.drew:=by
  cases A with
  |none=>have a7:=bq rfl;subst a7;have:kN=[]:=pn (by simpa using l8);subst this;simp[Builtin.firstCells]
  |some b=>exact A0 (P:=P) w.drew i.size c8 b c8 sCap kN l8 (by simpa using holds b rfl)
 simp[Builtin.append_,cA aQ,cA rH,sizeOf,typeInfo,zeroValue,hi,bp,asInt,asIntOf,ard,Rq,vT,hU,Gb,Gc,Gd,Question.forced,qk,newRow,grownCap]
 congr 2
 apply wR
 simp[nm]
end
end Go.Ev
namespace Go.Proofs.YtijdnecnjenleaaGreatDoor
open Go.Ev
variable{es:List AV}{j:Nat}
def Lc:List AV->a6 AV
 |[.agg [.int .i64 n0,.str f,.ab (.agg [.str,.int .i64]) ae,.str d,.ab (.agg [.str,.str]) aC,.ab (.int .u8) bs,.int .i64 b0,.int .i64 bS,.int .i64 n3,.ab (.agg [.str,.int .i64,.int .i64,.bool]) ws],.int .i64 i]=>.bt (inb i ws.length&&ee (bm (ws.getD i.toNat .J)).length) (.leaf (.str (rB (bm (ws.getD i.toNat .J)))))
 |_=>.no
def are:SumOK Tryz.prog 87 (aK Lc)/\b5 (aK Lc):=by
 refine eJ (aM.br bV anG) Tryz.func87 aG λaj aA k r h=>?_;unfold Lc at h;split at h
 .rename_i n0 f ae d aC bs b0 bS n3 ws i;obtain⟨aa,ai⟩:=bz h;simp only[ba]at aa;refine bn (b:=bif inb i ws.length then bif ee (bm (ws.getD i.toNat .J)).length then k (.str (rB (bm (ws.getD i.toNat .J))))else none else none) ?_;rw[<-ai,aa.1,aa.2];rfl
 .cases h
open IntKind
open Tryz
noncomputable def abS:Env:={pure:=[(87,aK Lc)]}
def abT:aM prog abS:=aM.br bV are
noncomputable def abU:Code:=((Tryz.f51.body.map c7).getD []).headD .skip
def wD(ws:List AV)(d:List UInt8)(i:Nat):Bool:=bif gl (ws.getD i .J)then rB (bm (ws.getD i .J))==d else false
def abV:List AV->List (Option Row)->a6 cy
 |[.str d,.ptr 0 0,.bool z,.int .i64 i],[some (.box false [.int .i64 n0,.str f,.ab (.agg [.str,.int .i64]) ae,.str d0,.ab (.agg [.str,.str]) aC,.ab (.int .u8) bs,.int .i64 b0,.int .i64 bS,.int .i64 n3,.ab (.agg [.str,.int .i64,.int .i64,.bool]) ws])]=>
  .bt (bl ws.length i ws.length&&ws.all eh) (h8 (wD ws d) ws.length (λq=>.leaf (.ret,[.str d,.ptr 0 0,.bool true,.int .i64 (q:Nat)],[some (.box false [.int .i64 n0,.str f,.ab eR ae,.str d0,.ab fb aC,.ab (.int .u8) bs,.int .i64 b0,.int .i64 bS,.int .i64 n3,.ab fW ws])]))
   (.leaf (.exit 0,[.str d,.ptr 0 0,.bool z,.int .i64 ws.length],[some (.box false [.int .i64 n0,.str f,.ab eR ae,.str d0,.ab fb aC,.ab (.int .u8) bs,.int .i64 b0,.int .i64 bS,.int .i64 n3,.ab fW ws])])) i.toNat)
 |_,_=>.no
def Ld:Ev.Loop:=⟨{len:=26,dr:=[1,2,4,5],rows:=[0]},dP abV⟩
def arf(vs:List AV)(rs:List (Option Row)):Nat:=match vs,rs with
 |[_,_,_,.int _ i],some (.box _ [_,_,_,_,_,_,_,_,_,.ab _ ws])::_=>((ws.length:Int)-i).toNat
 |_,_=>0
def arh:dj prog abS [(2,Ld)] abU Ld:=by
 refine ed abT.dX rfl (ch.nil aG) arf (λaj vs rs k r h=>?_);unfold abV at h;split at h
 .rename_i d z i n0 f ae d0 aC bs b0 bS n3 ws;obtain⟨aa,ai⟩:=bz h;simp only[ba]at aa;obtain⟨aa,cn⟩:=aa;obtain⟨_,an,j,rfl,aP⟩:=eA aa;rw[bK]at ai;refine bn (b:=have av:=[some (Row.box false [.I n0,.str f,.ab (.agg [.str,.int .i64]) ae,.str d0,.ab (.agg [.str,.str]) aC,.ab (.int .u8) bs,.I b0,.I bS,.I n3,.ab (.agg [.str,.int .i64,.int .i64,.bool]) ws])];have aI:=(ws.length:Int);have aO:=(j:Int);have aZ:=(ws.getD j .J);have bd:=(i64.wrap (aO+(1:Int)));have aF:=(bx (wD ws d) ws.length bd.toNat);have az:=bif decide ((aI-i64.wrap (aO+(1:Int))).toNat<(aI-aO).toNat)then bif bl aI bd ws.length&&ws.all eh then bif aF.isSome then k .ret [.str d,.ptr 0 0,.bool true,.I ((aF.getD 0):Int)] av else k (.exit 0) [.str d,.ptr 0 0,.bool z,.I aI] av else none else none;bif decide (aO<aI)then bif inb aO ws.length then bif(gl aZ)then bif inb aO ws.length&&ee (bm aZ).length then bif rB (bm aZ)==d then k .ret [.str d,.ptr 0 0,.bool true,.I aO] av else az else none else az else none else k (.exit 0) [.str d,.ptr 0 0,.bool z,.I aO] av) ?_;conv=>zeta
  rw[<-ai];by_cases aL:j<ws.length
  .obtain⟨aU,bc,bw,bQ,bN⟩:=ew aL an;rw[j2 _ _ _ _ _ aL];have fY:ee (bm (ws.getD j .J)).length=true:=jg cn aL;have kD:wD ws d j=bif gl (ws.getD j .J)then rB (bm (ws.getD j .J))==d else false:=rfl;simp only[aU,bc,bw,bQ,bN,fY,kD,cn,b4,bK,jz];cases gl (ws.getD j .J)<;>cases(rB (bm (ws.getD j .J))==d)<;>rfl
  .obtain rfl:j=ws.length:=al;exact jo
 .cases h
def va(ws:List AV)(d:List UInt8):Bool:=(bx (wD ws d) ws.length 0).isSome
def Le:List AV->a6 AV
 |[.agg [.int .i64 _,.str _,.ab (.agg [.str,.int .i64]) _,.str _,.ab (.agg [.str,.str]) _,.ab (.int .u8) _,.int .i64 _,.int .i64 _,.int .i64 _,.ab (.agg [.str,.int .i64,.int .i64,.bool]) ws],.str d]=>.bt (small ws.length&&ws.all eh) (.leaf (.bool (va ws d)))
 |_=>.no
def ari:SumOK prog 51 (aK Le)/\b5 (aK Le):=by
 refine iH (K:=[(2,Ld)]) (b:=abU) (l:=Ld) abT Tryz.func51 aG aG arh λaj aA k r h=>?_;unfold Le at h;split at h
 .rename_i n0 f ae d0 aC bs b0 bS n3 ws d;obtain⟨aa,ai⟩:=bz h;simp only[ba]at aa;refine bn (b:=bif bl (ws.length:Int) (0:Int) ws.length&&ws.all eh then bif(bx (wD ws d) ws.length 0).isSome then k (.bool true)else k (.bool false)else none) ?_;rw[<-ai,e1 aa.1,aa.2];unfold va;cases bx (wD ws d) ws.length 0<;>rfl
 .cases h
noncomputable def abW:Env:={pure:=[(51,aK Le)]}
def g13:aM prog abW:=aM.br bV ari
noncomputable def abX:Code:=((Tryz.f13.body.map c7).getD []).headD .skip
def e4(es:List AV)(d:List UInt8):Nat:=(es.filter λe=>va (bL e) d).length
def arj(d:List UInt8)(h:j<es.length):e4 (es.take (j+1)) d=e4 (es.take j) d+(bif va (bL (es.getD j .J)) d then 1 else 0):=by unfold e4;rw[List.take_succ_eq_append_getElem h,Su,fu,List.getD,fC h];cases ag:va (bL es[j]) d<;>simp[ag]
def ark(es:List AV)(d:List UInt8)(j:Nat):e4 (es.take j) d<=j:=by have:=List.length_filter_le (λe=>va (bL e) d) (es.take j);have ao:(es.take j).length<=j:=yQ;unfold e4;omega
def hX(e:AV):Bool:=small (bL e).length&&(bL e).all eh
def abY:List AV->List (Option Row)->a6 cy
 |[.str d,.ptr 0 0,.int .i64 n,.int .i64 i],[some (.box false [.ab (.agg [.int .i64,.str,.slice (.agg [.str,.int .i64]),.str,.slice (.agg [.str,.str]),.slice (.int .u8),.int .i64,.int .i64,.int .i64,.slice (.agg [.str,.int .i64,.int .i64,.bool])]) es,.int .i64 nx])]=>.bt (bl es.length i es.length&&(es.all hX&&n==(e4 (es.take i.toNat) d:Nat))) (.leaf (.exit 0,[.str d,.ptr 0 0,.int .i64 (e4 es d:Nat),.int .i64 es.length],[some (.box false [.ab db es,.int .i64 nx])]))
 |_,_=>.no
def Lf:Ev.Loop:=⟨{len:=24,dr:=[1,2,5,6],rows:=[0]},dP abY⟩
def arl(vs:List AV)(rs:List (Option Row)):Nat:=match vs,rs with
 |[_,_,_,.int _ i],some (.box _ [.ab _ es,_])::_=>((es.length:Int)-i).toNat
 |_,_=>0
def arn:dj prog abW [(3,Lf)] abX Lf:=by
 refine ed g13.dX rfl (ch.nil aG) arl (λaj vs rs k r h=>?_);unfold abY at h;split at h
 .rename_i d n i es nx;obtain⟨aa,ai⟩:=bz h;simp only[ba]at aa;obtain⟨aa,cn,aJ⟩:=aa;obtain⟨_,an,j,rfl,aP⟩:=eA aa;rw[bK]at aJ;obtain rfl:=ic aJ;refine bn (b:=have av:=[some (Row.box false [.ab (.agg [.int .i64,.str,.slice (.agg [.str,.int .i64]),.str,.slice (.agg [.str,.str]),.slice (.int .u8),.int .i64,.int .i64,.int .i64,.slice (.agg [.str,.int .i64,.int .i64,.bool])]) es,.I nx])];have az:=(es.length:Int);have aF:=(i64.wrap ((j:Int)+(1:Int)));have aI:=[AV.str d,.ptr 0 0,.I ((e4 es d):Int),.I az];have aO:=decide ((az-i64.wrap ((j:Int)+(1:Int))).toNat<(az-(j:Int)).toNat);have aZ:=((e4 (List.take j es) d):Int);have bd:=(bL (es.getD j .J));have bk:=((e4 (List.take aF.toNat es) d):Int);have bF:=(Ex.exit 0);bif decide ((j:Int)<az)then bif inb (j:Int) es.length then bif small bd.length&&bd.all eh then bif va bd d then bif aO then bif bl az aF es.length&&(es.all hX&&i64.wrap (aZ+(1:Int))==bk)then k bF aI av else none else none else bif aO then bif bl az aF es.length&&(es.all hX&&aZ==bk)then k bF aI av else none else none else none else none else k bF [.str d,.ptr 0 0,.I aZ,.I (j:Int)] av) ?_;conv=>zeta
  rw[<-ai];by_cases aL:j<es.length
  .obtain⟨aU,bc,bw,bQ,bN⟩:=ew aL an;have fY:=jg cn aL;have kD:=arj d aL;have uq:=ark es d j;unfold hX at fY;simp only[aU,bc,bw,bQ,bN,fY,cn,b4,bK,jz];cases hu:va (bL (es.getD j .J)) d
   .rw[hu]at kD;have pR:e4 (es.take (j+1)) d=e4 (es.take j) d:=kD;simp only[pR,cU,ha,b4];rfl
   .rw[hu]at kD;have pR:e4 (es.take (j+1)) d=e4 (es.take j) d+1:=kD;have pS:i64.wrap ((e4 (es.take j) d:Int)+1)=((e4 (es.take j) d+1:Nat):Int):=by rw[mL _ al al];omega
    simp only[pR,pS,b4,ha];rfl
  .obtain rfl:j=es.length:=al;rw[cZ al,AZ];rfl
 .cases h
def Ge:List AV->a6 AV
 |[.agg [.ab (.agg [.int .i64,.str,.slice (.agg [.str,.int .i64]),.str,.slice (.agg [.str,.str]),.slice (.int .u8),.int .i64,.int .i64,.int .i64,.slice (.agg [.str,.int .i64,.int .i64,.bool])]) es,.int .i64 _],.str d]=>.bt (small es.length&&es.all hX) (.leaf (.int .i64 (e4 es d:Nat)))
 |_=>.no
def aro:SumOK prog 13 (aK Ge)/\b5 (aK Ge):=by
 refine iH (K:=[(3,Lf)]) (b:=abX) (l:=Lf) g13 Tryz.func13 aG aG arn λaj aA k r h=>?_;unfold Ge at h;split at h
 .rename_i es nx d;obtain⟨aa,ai⟩:=bz h;simp only[ba]at aa;refine bn (b:=bif bl (es.length:Int) (0:Int) es.length&&(es.all hX&&(0:Int)==((e4 [] d):Int))then k (.I ((e4 es d):Int))else none) ?_;have aU:((0:Int)==((e4 [] d:Nat):Int))=true:=rfl;rw[<-ai,e1 aa.1,aa.2,aU];rfl
 .cases h
noncomputable def arp:Env:={pure:=[],fork:=true}
def Dc:aM prog arp:=aM.flags bV
def cK(n:Nat):Bool:=decide (n<=1000000)
def arq:prog.bytesOf 65<=1000:=bH aG
def Rr:List AV->a6 AV
 |[.ab (.agg [.str,.int .i64]) es]=>.bt (cK es.length) (.leaf (.ab eR es))
 |_=>.no
def ars:SumOK prog 104 (aK Rr)/\b5 (aK Rr):=by
 refine eJ Dc Tryz.func104 aG λaj aA k r h=>?_;unfold Rr at h;split at h
 .rename_i es;obtain⟨aa,ai⟩:=bz h;have iD:=bH aa;refine bn (b:=have av:=bif roomB es.length (prog.bytesOf 65)then k (.ab (.agg [.str,.int .i64]) es)else none;bif es.isEmpty then both (k (.ab (.agg [.str,.int .i64]) [])) (av)else av) ?_;conv=>zeta
  rw[<-ai,hW al arq];cases es with
  |nil=>exact BI _
  |cons x l=>rfl
 .cases h
def art:prog.bytesOf 136<=1000:=bH aG
def Rs:List AV->a6 AV
 |[.ab (.agg [.str,.str]) es]=>.bt (cK es.length) (.leaf (.ab fb es))
 |_=>.no
def aru:SumOK prog 105 (aK Rs)/\b5 (aK Rs):=by
 refine eJ Dc Tryz.func105 aG λaj aA k r h=>?_;unfold Rs at h;split at h
 .rename_i es;obtain⟨aa,ai⟩:=bz h;have iD:=bH aa;refine bn (b:=have av:=bif roomB es.length (prog.bytesOf 136)then k (.ab (.agg [.str,.str]) es)else none;bif es.isEmpty then both (k (.ab (.agg [.str,.str]) [])) (av)else av) ?_;conv=>zeta
  rw[<-ai,hW al art];cases es with
  |nil=>exact BI _
  |cons x l=>rfl
 .cases h
def arv:prog.bytesOf 5<=1000:=bH aG
def Rt:List AV->a6 AV
 |[.ab (.int .u8) es]=>.bt (cK es.length) (.leaf (.ab (.int .u8) es))
 |_=>.no
def arw:SumOK prog 106 (aK Rt)/\b5 (aK Rt):=by
 refine eJ Dc Tryz.func106 aG λaj aA k r h=>?_;unfold Rt at h;split at h
 .rename_i es;obtain⟨aa,ai⟩:=bz h;have iD:=bH aa;refine bn (b:=have av:=bif roomB es.length (prog.bytesOf 5)then k (.ab (.int .u8) es)else none;bif es.isEmpty then both (k (.ab (.int .u8) [])) (av)else av) ?_;conv=>zeta
  rw[<-ai,hW al arv];cases es with
  |nil=>exact BI _
  |cons x l=>rfl
 .cases h
def abZ:prog.bytesOf 110<=1000:=bH aG
def Lg:List AV->a6 AV
 |[.ab (.agg [.str,.int .i64,.int .i64,.bool]) es]=>.bt (cK es.length) (.leaf (.ab fW es))
 |_=>.no
def arx:SumOK prog 75 (aK Lg)/\b5 (aK Lg):=by
 refine eJ Dc Tryz.func75 aG λaj aA k r h=>?_;unfold Lg at h;split at h
 .rename_i es;obtain⟨aa,ai⟩:=bz h;have iD:=bH aa;refine bn (b:=have az:=(Sh.agg [.str,.int .i64,.int .i64,.bool]);have av:=bif roomB es.length (prog.bytesOf 110)then k (.ab az es)else none;bif es.isEmpty then both (k (.ab az [])) (av)else av) ?_;conv=>zeta
  rw[<-ai,hW al abZ];cases es with
  |nil=>exact BI _
  |cons x l=>rfl
 .cases h
def ary:prog.bytesOf 89<=1000:=bH aG
def AG:List AV->List Row->a6 hf
 |[.ab (.agg [.int .i64,.str,.slice (.agg [.str,.int .i64]),.str,.slice (.agg [.str,.str]),.slice (.int .u8),.int .i64,.int .i64,.int .i64,.slice (.agg [.str,.int .i64,.int .i64,.bool])]) es],[]=>.bt (cK es.length) (.leaf (.own bY,[],[.arr false db 89 es none]))
 |_,_=>.no
def Rj:fH prog 31 (cz AG)/\hA (cz AG):=by
 refine⟨Jp (H:=[(2,9999,89)]) Dc Tryz.func31 aG λaj aA rows k r h=>?_,kQ _⟩;change(AG aA rows).run _=some r at h;unfold AG at h;split at h
 .rename_i es;obtain⟨aa,ai⟩:=bz h;have iD:=bH aa;refine⟨bb,λrows' gA=>?_⟩;obtain rfl:rows'=[]:=by cases rows' with|nil=>rfl|cons a b=>exact gA.elim
  refine bn (b:=have av:=(Sh.agg [Sh.int i64,Sh.str,(Sh.agg [Sh.str,Sh.int i64]).slice,Sh.str,(Sh.agg [Sh.str,Sh.str]).slice,(Sh.int u8).slice,Sh.int i64,Sh.int i64,Sh.int i64,(Sh.agg [Sh.str,Sh.int i64,Sh.int i64,Sh.bool]).slice]);have aF:=(AV.own 2251799813685248);have az:=bif roomB es.length (prog.bytesOf 89)then k aF [] [.arr false av 89 es none]else none;bif es.isEmpty then both (k aF [] [.arr false av 89 [] none]) (az)else az) ?_;conv=>zeta
  rw[<-ai,hW al ary];cases es with
  |nil=>exact BI _
  |cons x l=>rfl
 .cases h
def CQ:List AV->List Row->a6 hf
 |[.ab (.agg [.str,.int .i64,.int .i64,.bool]) es],[]=>.bt (cK es.length) (.leaf (.own bY,[],[.arr false fW 110 es none]))
 |_,_=>.no
def anH:fH prog 75 (cz CQ)/\hA (cz CQ):=by
 refine⟨Jp (H:=[(2,9999,110)]) Dc Tryz.func75 aG λaj aA rows k r h=>?_,kQ _⟩;change(CQ aA rows).run _=some r at h;unfold CQ at h;split at h
 .rename_i es;obtain⟨aa,ai⟩:=bz h;have iD:=bH aa;refine⟨bb,λrows' gA=>?_⟩;obtain rfl:rows'=[]:=by cases rows' with|nil=>rfl|cons a b=>exact gA.elim
  refine bn (b:=have az:=(Sh.agg [.str,.int .i64,.int .i64,.bool]);have aF:=(AV.own 2251799813685248);have av:=bif roomB es.length (prog.bytesOf 110)then k aF [] [.arr false az 110 es none]else none;bif es.isEmpty then both (k aF [] [.arr false az 110 [] none]) (av)else av) ?_;conv=>zeta
  rw[<-ai,hW al abZ];cases es with
  |nil=>exact BI _
  |cons x l=>rfl
 .cases h
def FM(f:Nat):List AV->List Row->a6 hf
 |[.ab (.agg [.int .i64,.str,.slice (.agg [.str,.int .i64]),.str,.slice (.agg [.str,.str]),.slice (.int .u8),.int .i64,.int .i64,.int .i64,.slice (.agg [.str,.int .i64,.int .i64,.bool])]) es],[]=>.bt (cK es.length&&decide (f<es.length)) (.leaf (.own bY,[],[.cj false db 89 (es.take f) (hj db (es.getD f .J)) (es.drop (f+1))]))
 |_,_=>.no
def anI(f:Nat):fH prog 31 (cz (FM f))/\hA (cz (FM f)):=fH.focus Rj.1 λaA rows=>by
 unfold FM;split
 .rename_i es;by_cases aR:f<es.length
  .refine .inr (.inr ⟨cK es.length,_,.own bY,[],db,89,es.take f,es.getD f .J,es.drop (f+1),none,[],_,?_,rfl,λh=>?_,.inr rfl⟩)
   .show a6.bt _ (a6.leaf (AV.own bY,([]:List (Option Row)),[Row.arr false db 89 es none]))=_;rw[<-Cx aR,uh]
   .simp only[ba]at h;exact h.1
  .exact .inr (.inl ⟨_,by rw[cZ aR,Bool.and_false]⟩)
 .exact .inl rfl
def An:List AV->a6 AV
 |[.agg [.str f,.ab (.agg [.str,.int .i64]) ae,.str d,.ab (.agg [.str,.str]) aC,.ab (.int .u8) bs]]=>.bt (cK ae.length&&(cK aC.length&&cK bs.length)) (.leaf (.agg [.str f,.ab eR ae,.str d,.ab fb aC,.ab (.int .u8) bs]))
 |_=>.no
def QH:SumOK prog 66 (aK An)/\b5 (aK An):=by
 refine eJ (aM.br (aM.br (aM.br bV arw) aru) ars) Tryz.func66 aG λaj aA k r h=>?_;unfold An at h;split at h
 .rename_i f ae d aC bs;obtain⟨aa,ai⟩:=bz h;simp only[ba]at aa;refine bn (b:=bif cK ae.length then bif cK aC.length then bif cK bs.length then k (.agg [.str f,.ab (.agg [.str,.int .i64]) ae,.str d,.ab (.agg [.str,.str]) aC,.ab (.int .u8) bs])else none else none else none) ?_;rw[<-ai,aa.1,aa.2.1,aa.2.2];rfl
 .cases h
def bZ(e:AV):AV:=.agg [.int .i64 (aW e),.str (kT e),.ab eR (eP e),.str (fp e),.ab fb (ix e),.ab (.int .u8) (iV e),.int .i64 (fA e),.int .i64 (hK e),.int .i64 (iW e),.ab fW (bL e)]
def fB(e:AV):Bool:=(cK (eP e).length&&(cK (ix e).length&&cK (iV e).length))&&cK (bL e).length
def lj(e:AV)(ws:List AV):AV:=.agg [.int .i64 (aW e),.str (kT e),.ab eR (eP e),.str (fp e),.ab fb (ix e),.ab (.int .u8) (iV e),.int .i64 (fA e),.int .i64 (hK e),.int .i64 (iW e),.ab fW ws]
def arz(e:AV):lj (bZ e) (bL e)=bZ e:=rfl
def Mv(e:AV):fB (bZ e)=fB e:=rfl
def ab0(h:j<es.length)(x:AV):(es.set j x).take (j+1)=es.take j++[x]:=by rw[LS,List.take_set_of_le (dc _),GB h];rfl
def set_drop(es:List AV)(j:Nat)(x:AV):(es.set j x).drop (j+1)=es.drop (j+1):=List.drop_set_of_lt al
def arA(h:j<es.length):(es.set j (bZ (es.getD j .J))).take (j+1)++((es.set j (bZ (es.getD j .J))).drop (j+1)).map bZ=es.take j++(es.drop j).map bZ:=by rw[ab0 h,set_drop,Cx h,iZ,nm];rfl
def arB(h:j<es.length)(cu:es.all fB=true):(es.set j (bZ (es.getD j .J))).all fB=true:=ec.2 λe he=>by
 rcases L2 he with he|rfl
 .exact ec.1 cu e he
 .rw[Mv,List.getD,fC h];exact ec.1 cu _ (p3 h)
def arC(h:j<es.length)(x:AV):(es.set j x).getD j .J=x:=by rw[List.getD,GB h];rfl
noncomputable def ab1:Env:={pure:=[(66,aK An),(75,aK Lg)],opens:=[(31,cz AG)]}
def ab2:aM prog ab1:=aM.br (aM.br (aM.iS bV Rj) arx) QH
noncomputable def Kv:Code:=((Tryz.f41.body.map c7).getD []).headD .skip
def Dd(s:Sh)(nx:Int)(es:List AV)(i:Nat):cy:=(.exit 0,[.ptr 0 0,.ptr 1 0,.int .i64 es.length,.int .i64 es.length],[some (.box false [.own 9999,.int .i64 nx]),some (.box false [.bf s,.int .i64 0]),some (.arr false db 89 (es.take i++(es.drop i).map bZ) none)])
def ab3:List AV->List (Option Row)->a6 cy
 |[.ptr 0 0,.ptr 1 0,.int .i64 n,.int .i64 i],[some (.box false [.own 9999,.int .i64 nx]),some (.box false [.bf s,.int .i64 0]),some (.arr false (.agg [.int .i64,.str,.slice (.agg [.str,.int .i64]),.str,.slice (.agg [.str,.str]),.slice (.int .u8),.int .i64,.int .i64,.int .i64,.slice (.agg [.str,.int .i64,.int .i64,.bool])]) 89 es none)]=>.bt (bl n i es.length&&es.all fB) (.leaf (Dd s nx es i.toNat))
 |_,_=>.no
def Lh:Ev.Loop:=⟨{len:=37,dr:=[1,2,11,12],rows:=[0,1,9999],cells:=[(0,0,9999,89)]},dP ab3⟩
def ZK(vs:List AV)(_:List (Option Row)):Nat:=match vs with
 |[_,_,.int _ n,.int _ i]=>(n-i).toNat
 |_=>0
def arD:dj prog ab1 [(3,Lh)] Kv Lh:=by
 refine ed ab2.dX rfl (ch.nil aG) ZK (λaj vs rs k r h=>?_);unfold ab3 at h;split at h
 .rename_i n i nx s es;obtain⟨aa,ai⟩:=bz h;simp only[ba]at aa;obtain⟨aa,cu⟩:=aa;obtain⟨rfl,an,j,rfl,aP⟩:=eA aa;simp only[bK]at ai;refine bn (b:=have az:=(Sh.agg [Sh.int i64,Sh.str,(Sh.agg [Sh.str,Sh.int i64]).slice,Sh.str,(Sh.agg [Sh.str,Sh.str]).slice,(Sh.int u8).slice,Sh.int i64,Sh.int i64,Sh.int i64,(Sh.agg [Sh.str,Sh.int i64,Sh.int i64,Sh.bool]).slice]);have aF:=(es.getD j .J);have aI:=(i64.wrap ((j:Int)+(1:Int)));have aO:=(es.length:Int);have aZ:=(Row.box false [.own 9999,.I nx]);have bd:=(Row.box false [.bf s,.I 0]);have bk:=decide (j<es.length);have bF:=(es.set j (bZ aF));have av:=(bF.set j (lj (bF.getD j .J) (bL aF)));bif decide ((j:Int)<aO)then bif inb (j:Int) es.length then bif bk then bif cK (eP aF).length&&(cK (ix aF).length&&cK (iV aF).length)then bif bk then bif cK (bL aF).length then bif bk then bif decide (j<bF.length)then bif decide ((aO-i64.wrap ((j:Int)+(1:Int))).toNat<(aO-(j:Int)).toNat)then bif bl aO aI av.length&&av.all fB then k (.exit 0) [.ptr 0 0,.ptr 1 0,.I (av.length:Int),.I (av.length:Int)] [some aZ,some bd,some (.arr false az 89 (List.take aI.toNat av++List.map bZ (List.drop aI.toNat av)) none)]else none else none else none else none else none else none else none else none else none else k (.exit 0) [.ptr 0 0,.ptr 1 0,.I aO,.I (j:Int)] [some aZ,some bd,some (.arr false az 89 es none)]) ?_;conv=>zeta
  rw[<-ai];by_cases aL:j<es.length
  .obtain⟨aU,bc,bw,bQ,bN⟩:=ew aL an;have aw:=jg cu aL;unfold fB at aw;rw[ba]at aw;obtain⟨fY,kD⟩:=aw;have g:=arB aL cu;simp only[aU,bc,bw,bQ,bN,fY,kD,g,arC aL,arz,List.set_set,aS aL,oJ,b4,bK,jz];rw[arA aL];rfl
  .obtain rfl:j=es.length:=al;rw[cZ al];have j9:Dd s nx es es.length=(.exit 0,[.ptr 0 0,.ptr 1 0,.int .i64 es.length,.int .i64 es.length],[some (.box false [.own 9999,.int .i64 nx]),some (.box false [.bf s,.int .i64 0]),some (.arr false db 89 es none)]):=by unfold Dd;rw[vm,AZ,Dw,jy]
   show _=k (Dd s nx es es.length).1 (Dd s nx es es.length).2.1 (Dd s nx es es.length).2.2;rw[j9];rfl
 .cases h
def Gf:List AV->List Row->a6 hf
 |[.agg [.ab (.agg [.int .i64,.str,.slice (.agg [.str,.int .i64]),.str,.slice (.agg [.str,.str]),.slice (.int .u8),.int .i64,.int .i64,.int .i64,.slice (.agg [.str,.int .i64,.int .i64,.bool])]) es,.int .i64 nx]],[]=>.bt (cK es.length&&es.all fB) (.leaf (.agg [.own bY,.int .i64 nx],[],[.arr false db 89 (es.map bZ) none]))
 |_,_=>.no
def arE:fH prog 41 (cz Gf)/\hA (cz Gf):=by
 refine⟨PD (K:=[(3,Lh)]) (H:=[]) (b:=Kv) (l:=Lh) ab2 Tryz.func41 aG aG arD λaj aA rows k r h=>?_,kQ _⟩;change(Gf aA rows).run _=some r at h;unfold Gf at h;split at h
 .rename_i es nx;obtain⟨aa,ai⟩:=bz h;simp only[ba]at aa;obtain⟨aa,cu⟩:=aa;have iD:=bH aa;refine⟨bb,λrows' gA=>?_⟩;obtain rfl:rows'=[]:=by cases rows' with|nil=>rfl|cons a b=>exact gA.elim
  refine bn (b:=bif cK es.length then bif bl (es.length:Int) (0:Int) es.length&&es.all fB then k (.agg [.own 2251799813685248,.I nx]) [] [.arr false (.agg [.int .i64,.str,.slice (.agg [.str,.int .i64]),.str,.slice (.agg [.str,.str]),.slice (.int .u8),.int .i64,.int .i64,.int .i64,.slice (.agg [.str,.int .i64,.int .i64,.bool])]) 89 ([]++List.map bZ (List.drop 0 es)) none]else none else none) ?_;rw[<-ai,aa,e1 (aS al),cu];rfl
 .cases h
def pz(r:AV):AV:=.agg [.str (bm r),.int .i64 (iw r),.int .i64 0,.bool false]
noncomputable def ab4:Env:={pure:=[(26,aK Am),(27,aK rv),(28,aK uY),(29,aK pQ),(39,aK o9),(65,aK FI),(66,aK An)],opens:=[(41,cz Gf)]}
def g24:aM prog ab4:=aM.br (aM.br (aM.br (aM.br (aM.br (aM.br (aM.br (aM.iS bV arE) QH) QB) rz) ry) CL) uU) QD
noncomputable def ab5:Code:=((Tryz.f24.body.map c7).getD []).headD .skip
noncomputable def ab6(ae:List AV)(n i:Int)(h4:Nat)(nx:Int)(f:List UInt8)(fs:List AV)(d:List UInt8)(an bs:List AV)(s2:Sh)(es:List AV)(gb e3:Option Row):a6 cy:=match gb,e3 with
 |some (.box false [.int .i64 fL,.str f0,.ab (.agg [.str,.int .i64]) bo,.str d0,.ab (.agg [.str,.str]) a7,.ab (.int .u8) jB,.int .i64 b0,.int .i64 bS,.int .i64 n3,.own q]),some (.arr false (.agg [.str,.int .i64,.int .i64,.bool]) 110 ws none)=>.bt (bl n i ae.length&&(decide (ws.length+(ae.length-i.toNat)<=1000000)&&(Nat.beq h4 4294968001&&Nat.beq q 9998)))
  (.leaf (.exit 1,[.ptr 0 0,.ptr 1 0,.ptr 2 0,.ptr 4 0,.ptr 775 0,.ab eR ae,.int .i64 n,.int .i64 ae.length],[some (.box false [.own 4294968001,.int .i64 nx]),some (.box false [.str f,.ab eR fs,.str d,.ab fb an,.ab (.int .u8) bs]),some (.box false [.bf s2,.int .i64 0]),some (.box false [.int .i64 0,.int .i64 0]),some (.arr false db 89 es none),some (.box false [.int .i64 fL,.str f0,.ab eR bo,.str d0,.ab fb a7,.ab (.int .u8) jB,.int .i64 b0,.int .i64 bS,.int .i64 n3,.own 9998]),some (.arr false fW 110 (ws++(ae.drop i.toNat).map pz) none)]))
 |_,_=>.no
noncomputable def ab7(ae:List AV)(n i:Int)(h4:Nat)(nx:Int)(f:List UInt8)(fs:List AV)(d:List UInt8)(an bs:List AV)(s2:Sh)(gP gb e3:Option Row):a6 cy:=match gP with
 |some (.arr false (.agg [.int .i64,.str,.slice (.agg [.str,.int .i64]),.str,.slice (.agg [.str,.str]),.slice (.int .u8),.int .i64,.int .i64,.int .i64,.slice (.agg [.str,.int .i64,.int .i64,.bool])]) 89 es none)=>ab6 ae n i h4 nx f fs d an bs s2 es gb e3
 |_=>.no
noncomputable def ab8(ae:List AV)(n i:Int)(fL iI h9 hC gP gb e3:Option Row):a6 cy:=match fL,iI,h9,hC with
 |some (.box false [.own h4,.int .i64 nx]),some (.box false [.str f,.ab (.agg [.str,.int .i64]) fs,.str d,.ab (.agg [.str,.str]) an,.ab (.int .u8) bs]),some (.box false [.bf s2,.int .i64 0]),some (.box false [.int .i64 0,.int .i64 0])=>ab7 ae n i h4 nx f fs d an bs s2 gP gb e3
 |_,_,_,_=>.no
noncomputable def ab9(ae:List AV)(n i:Int)(rows:List (Option Row)):a6 cy:=match rows with
 |[fL,iI,h9,hC,gP,gb,e3]=>ab8 ae n i fL iI h9 hC gP gb e3
 |_=>.no
noncomputable def aca(vs:List AV)(rows:List (Option Row)):a6 cy:=match vs with
 |[.ptr 0 0,.ptr 1 0,.ptr 2 0,.ptr 4 0,.ptr acb 0,.ab (.agg [.str,.int .i64]) ae,.int .i64 n,.int .i64 i]=>.bt (Nat.beq acb 775) (ab9 ae n i rows)
 |_=>.no
noncomputable def Li:Ev.Loop:=⟨{len:=86,dr:=[3,4,6,8,11,58,59,60],rows:=[0,1,2,4,4294968001,775,9998],cells:=[(775,9,9998,110)]},dP aca⟩
def arF(vs:List AV)(_:List (Option Row)):Nat:=match vs with
 |[_,_,_,_,_,_,.int _ n,.int _ i]=>(n-i).toNat
 |_=>0
def arG:dj prog ab4 [(14,Li)] ab5 Li:=by
 refine ed g24.dX rfl (ch.nil aG) arF (λaj vs rs k r h=>?_);unfold aca at h;split at h;rotate_left
 .cases h
 rename_i acb ae n i;obtain⟨arH,af⟩:=bz h;obtain rfl:=cH arH;clear h;have h:=af;clear af;unfold ab9 at h;split at h;rotate_left
 .cases h
 rename_i EP o4 As y3 y4 aaf y6;unfold ab8 at h;split at h;rotate_left
 .cases h
 rename_i h4 nx f fs d an bs s2;unfold ab7 at h;split at h;rotate_left
 .cases h
 rename_i es;unfold ab6 at h;split at h
 .rename_i fL f0 bo d0 a7 jB b0 bS n3 q ws;obtain⟨aa,ai⟩:=bz h;simp only[ba]at aa;obtain⟨aa,hw,Ru,aH⟩:=aa;have hw:=bH hw;obtain rfl:=cH Ru;obtain rfl:=cH aH;obtain⟨rfl,cu,j,rfl,aP⟩:=eA aa;rw[bK]at ai hw;refine bn (b:=have az:=[AV.agg [.str (bm (ae.getD j .J)),.I (iw (ae.getD j .J)),.I 0,.bool false]];have aO:=(Sh.agg [.str,.int .i64]);have aZ:=(ae.length:Int);have bd:=(Sh.agg [.str,.int .i64,.int .i64,.bool]);have bk:=(i64.wrap ((j:Int)+(1:Int)));have bF:=(Row.box false [.I 0,.I 0]);have bI:=(Row.box false [.own 4294968001,.I nx]);have b3:=(Row.box false [.bf s2,.I 0]);have cd:=(Sh.agg [.str,.str]);have cJ:=(Sh.int .u8);have av:=(Row.arr false (.agg [.int .i64,.str,aO.slice,.str,cd.slice,cJ.slice,.int .i64,.int .i64,.int .i64,bd.slice]) 89 es none);have aF:=(Row.box false [.I fL,.str f0,.ab aO bo,.str d0,.ab cd a7,.ab cJ jB,.I b0,.I bS,.I n3,.own 9998]);have aI:=(Row.box false [.str f,.ab aO fs,.str d,.ab cd an,.ab cJ bs]);bif decide ((j:Int)<aZ)then bif inb (j:Int) ae.length then bif roomB (ws.length+az.length) (prog.bytesOf 110)then bif decide ((aZ-i64.wrap ((j:Int)+(1:Int))).toNat<(aZ-(j:Int)).toNat)then bif bl aZ bk ae.length&&(decide ((ws++az).length+(ae.length-bk.toNat)<=1000000)&&(Nat.beq 4294968001 4294968001&&(9998:Nat).beq 9998))then k (.exit 1) [.ptr 0 0,.ptr 1 0,.ptr 2 0,.ptr 4 0,.ptr 775 0,.ab aO ae,.I aZ,.I aZ] [some bI,some aI,some b3,some bF,some av,some aF,some (.arr false bd 110 (ws++az++List.map pz (List.drop bk.toNat ae)) none)]else none else none else none else none else k (.exit 1) [.ptr 0 0,.ptr 1 0,.ptr 2 0,.ptr 4 0,.ptr 775 0,.ab aO ae,.I aZ,.I (j:Int)] [some bI,some aI,some b3,some bF,some av,some aF,some (.arr false bd 110 ws none)]) ?_;conv=>zeta
  rw[<-ai];by_cases aL:j<ae.length
  .obtain⟨aU,bc,bw,bQ,bN⟩:=ew aL cu;have j9:∀x:AV,roomB (ws.length+([x]:List AV).length) (prog.bytesOf 110)=true:=λx=>hW ps (bH aG);have mD:∀x:AV,decide ((ws++[x]).length+(ae.length-(j+1))<=1000000)=true:=λx=>aS s3;have Aq:ws++(ae.drop j).map pz=ws++[pz (ae.getD j .J)]++(ae.drop (j+1)).map pz:=by rw[rP aL,iZ,List.getD,fC aL,nm];rfl
   rw[Aq];simp only[aU,bc,bw,bQ,bN,j9,mD,b9,b4,bK,jz];rfl
  .obtain rfl:j=ae.length:=al;rw[cZ al,vm,Dw,jy];rfl
 .cases h
def Gg(x:Int)(f:List UInt8)(ae:List AV)(d:List UInt8)(an bs:List AV)(y:Int):AV:=.agg [.int .i64 x,.str f,.ab eR ae,.str d,.ab fb an,.ab (.int .u8) bs,.int .i64 y,.int .i64 0,.int .i64 y,.ab fW (ae.map pz)]
def yj(es:List AV)(nx:Int)(f:List UInt8)(ae:List AV)(d:List UInt8)(an bs:List AV)(y:Int):Bool:=(small es.length&&es.all mc)&&(((ee f.length&&(small ae.length&&(ae.all eh&&ee d.length)))&&(small an.length&&(an.all okF&&decide (bs.length<=141000000000000))))&&(eG y&&(decide (es.length<=3/\(iX es nx).1=0/\nx<1000000/\0<=nx)&&(es.all fB&&(cK ae.length&&(cK an.length&&cK bs.length))))))
def Lj:List AV->a6 AV
 |[.agg [.ab (.agg [.int .i64,.str,.slice (.agg [.str,.int .i64]),.str,.slice (.agg [.str,.str]),.slice (.int .u8),.int .i64,.int .i64,.int .i64,.slice (.agg [.str,.int .i64,.int .i64,.bool])]) es,.int .i64 nx],.agg [.str f,.ab (.agg [.str,.int .i64]) ae,.str d,.ab (.agg [.str,.str]) an,.ab (.int .u8) bs],.int .i64 y]=>
  .bt (yj es nx f ae d an bs y) (.cY ((iU f ae d an bs).1 !=0) (.leaf (.tup [.agg [.ab db [],.int .i64 0],.int .i64 0,.agg [.int .i64 (iU f ae d an bs).1,.int .i64 (-6)]]))
   (.leaf (.tup [.agg [.ab db (es.map bZ++[Gg nx f ae d an bs y]),.int .i64 (nx+1)],.int .i64 nx,.agg [.int .i64 0,.int .i64 0]])))
 |_=>.no
def arI:SumOK prog 24 (aK Lj)/\b5 (aK Lj):=by
 refine iH (K:=[(14,Li)]) (b:=ab5) (l:=Li) g24 Tryz.func24 aG aG arG λaj aA k r h=>?_;unfold Lj at h;split at h
 .rename_i es nx f ae d an bs y;obtain⟨aa,ai⟩:=bz h;unfold yj at aa;obtain⟨b2,aa⟩:=jn.1 aa;obtain⟨bX,aa⟩:=jn.1 aa;obtain⟨c3,aa⟩:=jn.1 aa;obtain⟨mu,aa⟩:=jn.1 aa;obtain⟨c5,uo⟩:=jn.1 aa;obtain⟨d1,d2,d3,d4⟩:=bH mu;refine bn (b:=have aO:=(Sh.agg [.str,.int .i64,.int .i64,.bool]);have av:=(Sh.agg [Sh.int i64,Sh.str,(Sh.agg [Sh.str,Sh.int i64]).slice,Sh.str,(Sh.agg [Sh.str,Sh.str]).slice,(Sh.int u8).slice,Sh.int i64,Sh.int i64,Sh.int i64,aO.slice]);have az:=[AV.agg [.I nx,.str f,.ab (.agg [.str,.int .i64]) ae,.str d,.ab (.agg [.str,.str]) an,.ab (.int .u8) bs,.I y,.I 0,.I y,.ab aO ([]++List.map pz (List.drop 0 ae))]];have aF:=[AV.ab av [],.I 0];have aI:=(AV.tup [AV.agg aF,AV.int i64 0,AV.agg [AV.int i64 2,AV.int i64 (-8:Int)]]);bif small es.length&&es.all mc then bif(iX es nx).fst !=0 then k (.tup [.agg aF,.I 0,.agg [.I (iX es nx).fst,.I (iX es nx).snd]])else bif ee f.length&&(small ae.length&&(ae.all eh&&ee d.length))&&(small an.length&&(an.all okF&&decide (bs.length<=141000000000000)))then bif(iU f ae d an bs).fst !=0 then k (.tup [.agg aF,.I 0,.agg [.I (iU f ae d an bs).fst,.I (-6:Int)]])else bif !eG y then k (.tup [.agg aF,.I 0,.agg [.I 3,.I (-7:Int)]])else bif(es.length:Int)==20 then k aI else bif nx==1000000 then k aI else bif cK es.length&&es.all fB then bif cK ae.length&&(cK an.length&&cK bs.length)then bif bl (ae.length:Int) (0:Int) ae.length&&(decide (([]:List AV).length+(ae.length-Int.toNat (0:Int))<=1000000)&&((mO (11*64+(0+1)) (bY-bY)).beq 4294968001&&(9998:Nat).beq 9998))then bif roomB ((List.map bZ es).length+az.length) (prog.bytesOf 89)then k (.tup [.agg [.ab av (List.map bZ es++az),.I (i64.wrap (nx+(1:Int)))],.I nx,.agg [.I 0,.I 0]])else none else none else none else none else none else none) ?_;conv=>zeta
  have Rv:=uo;simp only[ba]at Rv;unfold cK at Rv;have lt:=bH Rv.1;have w1:i64.wrap (nx+1)=nx+1:=lT _ al al;have b1:(es.map bZ).length=es.length:=g' _;rw[d2,w1,pj,DE];refine aT (a' b2) (aT (fP rfl) (aT (a' bX) ?_));change(a6.cY _ _ _).run k=some r at ai;cases aH:((iU f ae d an bs).1 !=0)
  .rw[aH]at ai;refine aT (fP rfl) (aT (fP (by rw[c3];rfl)) (aT (fP (GD.2 al)) (aT (fP (GD.2 al)) ?_)));refine aT (a' (aV (aS al) c5)) (aT (a' uo) ?_);refine aT (a' (aV (e1 (aS al)) (aV (aS GY) (aV (b9 _) (b9 _))))) ?_;refine aT (a' (hW (by rw[b1,qR];omega) (bH aG))) ?_;exact ai
  .rw[aH]at ai;exact ai
 .cases h
open Go.Ev Go.RowKit Go.Lib
set_option maxHeartbeats 4000000 in
set_option maxRecDepth 100000 in
def arJ(A:Option Addr)(w:World):Calls prog 147 #[.slice A 0 0,.int .i64 0] w λe w'=>e=.returned (.slice A 0 0)/\w'=w:=by
 go_enter Tryz.func147,Tryz.ntmps147
 go_wp2
 go_ret
 exact⟨rfl,rfl⟩
set_option maxHeartbeats 4000000 in
set_option maxRecDepth 100000 in
theorem arK(A:Option Addr)(n:Nat)(i:TypeInfo)(z:Value)(hi:prog.info? 5=some i)(bp:i.zero=some z)(an:0<i.size)(aJ:0<n)(qs:n<=4611686018427387904)(ag:n*i.bytes<=140737488355328)(w:World):
  Calls prog 147 #[.slice A 0 0,.int .i64 n] w λe w'=>e=.returned (.slice (some ⟨w.heap.size,0,none⟩) 0 (grownCap w n 0 5))/\
   w'=w.drew.alloc (.cells ((Builtin.zeroCells z.cells n).toList.toArray++Builtin.zeroCells z.cells (grownCap w n 0 5-n)) 5):=by
 have af:¬((n:Int)<0):=al
 have a1:wrap64 ((n:Int)-0)=(n:Int):=by unfold wrap64;omega
 have ca:(n:Int)>0:=al
 have Rw:∀ty,(Builtin.append_ #[29,3] ty #[.slice A 0 0,.int .i64 (n:Int)]).run prog w=
   .ok (.slice (some ⟨w.heap.size,0,none⟩) n (grownCap w n 0 5)) (w.drew.alloc (.cells ((Builtin.zeroCells z.cells n).toList.toArray++Builtin.zeroCells z.cells (grownCap w n 0 5-n)) 5)):=λty=>by
  have h:=abR (P:=prog) (w:=w) 29 3 ty 5 i z Tryz.underlying29 (k:=.i64) Tryz.underlying3 hi bp an A 0 0 n [] bb bb (λ_=>rfl) al aJ al al (by simp_all[sX,growslice_fits])
  simpa using h
 have arL:n<=grownCap w n 0 5:=yG w _ _ _
 have arM:grownCap w n 0 5<=9223372036854775807:=by have:=yH w n 0 5 Ml;unfold maxLen at this;omega
 generalize grownCap w n 0 5=G at Rw arL arM⊢
 go_enter Tryz.func147,Tryz.ntmps147
 cases A with
 |none=>
  go_wp2_with (at_builtin;refine Lib.wpList_append_run _ rfl _ _ _ _ rfl _ _ rfl rfl _ _ (Rw _) ?_)
  all_goals(go_ret;exact⟨rfl,rfl⟩)
 |some a=>
  obtain⟨aws,awt,awu⟩:=a
  go_wp2_with (at_builtin;refine Lib.wpList_append_run _ rfl _ _ _ _ rfl _ _ rfl rfl _ _ (Rw _) ?_)
  all_goals(go_ret;exact⟨rfl,rfl⟩)
theorem arN(z:Array Value)(n:Nat):(Builtin.zeroCells z n).toList=(List.range (n*z.size)).map λi=>z[i%z.size]!:=by grind[Builtin.zeroCells,Array.toList_map,Array.toList_range]
theorem arO(z:Array Value)(n m:Nat):Builtin.zeroCells z n++Builtin.zeroCells z m=Builtin.zeroCells z (n+m):=by apply wR;simp_all[L0,arN,kB,List.range_add,yK,p4,congr,p5,Nat.mul_add_mod_self_right]
def De:List AV->List Row->a6 hf
 |[.bf (.int .u8),.int .i64 n],[]=>.bt (decide (0<=n/\n<=1000000)) (.leaf (.own bY,[],[.arr false (.int .u8) 5 [] none]))
 |_,_=>.no
def arP:shOf prog depth 5=.int .u8:=aG
def arQ:l2 prog 5=true:=aG
def acd:prog.bytesOf 5<=1000:=bH aG
def arR{w:World}{S:Nat->Prop}{β:cD}{s:Sh}{v:Value}(h:VRel w S β (.bf s) v):∃A,v=.slice A 0 0:=by cases h;exact⟨_,rfl⟩
theorem arS:fH prog 147 (cz De)/\hA (cz De):=by
 refine⟨λaj w S B β og aA rows args k r ep k7 l6 ar h=>?_,kQ De⟩;have h':(De aA rows).run (λq=>k q.1 q.2.1 q.2.2)=some r:=h;unfold De at h';split at h'
 .rename_i n;obtain⟨aa,ai⟩:=bz h';obtain⟨n0,b0⟩:=bH aa;obtain⟨v,vs,rfl,af,ar⟩:=ar.inv;obtain⟨u,us,rfl,ao,ar⟩:=ar.inv;obtain rfl:=ar.gf;obtain⟨A,rfl⟩:=arR af;rw[ao.eT];obtain⟨m,rfl⟩:∃m:Nat,n=m:=⟨n.toNat,al⟩;obtain⟨i,dz,hi,fJ,fR,dJ,hq,nF,hS,jO,qn⟩:=xw arQ;have o7:(Sh.int .u8).width=1:=rfl;refine .inl ⟨aG,?_⟩;by_cases hm:m=0
  .subst hm;refine(arJ A w).mono λe w' aH=>?_;obtain⟨he,rfl⟩:=aH;refine⟨_,_,_,_,S,fK β bY (some (.slice A 0 0,1)),fK og bY none,he,ai,?_⟩;refine⟨Kept.refl _ _,λ_ h=>h,λ_ h=>.inl h,.own _ bY _ _ (cV _ _ _),λj r aP=>by simp at aP,λj r aP=>?_,λid eg g aB dK=>?_,λid g aB=>?_,λid x ak=>?_,λb ag=>ep.dF b ag,λid x hid ak=>?_⟩
   .match j with
    |0=>simp only[sY,ej]at aP;subst aP;exact⟨gn,_,[],[],bb,(λc h=>cM),cV _ _ _,bb,VRels.nil,.inl ⟨rfl,rfl,cV _ _ _,A,rfl⟩⟩
    |j+1=>simp at aP
   .by_cases e:id=bY
    .grind[cV]
    .by_cases e':eg=bY
     .grind[cV]
     .exact TD
   .by_cases e:id=bY
    .grind[cV]
    .rw[fl _ _ _ _ e]at aB;exact ep.lt _ _ aB
   .by_cases e:id=bY
    .rw[e,cV]at ak;cases ak;rfl
    grind[fl]
   grind[fl,Nat.ne_of_lt]
  .have ag:m*i.bytes<=140737488355328:=by
     have a1:i.bytes<=1000:=by rw[nF];exact acd
     have ca:m*i.bytes<=1000000*1000:=Nat.mul_le_mul al a1;omega
   refine(arK A m i dz hi fJ dJ al al ag w).mono λe w' aH=>?_;obtain⟨he,hw⟩:=aH;have xL:=yG w m 0 5;have hle:grownCap w m 0 5<=maxLen:=yH w m 0 5 Ml;have wW:((Builtin.zeroCells dz.cells m).toList.toArray++Builtin.zeroCells dz.cells (grownCap w m 0 5-m))=([]:List Value).toArray++Builtin.zeroCells dz.cells (grownCap w m 0 5-([]:List AV).length):=by rw[GG,arO,show m+(grownCap w m 0 5-m)=grownCap w m 0 5 from al];show _= #[]++Builtin.zeroCells dz.cells (grownCap w m 0 5-0);grind
   rw[wW]at hw;have oX:Below w.heap.size w w':=by rw[hw];exact EG w _
   have cx:w'.heap.size=w.heap.size+1:=by rw[hw];simp
   have hold:∀k,k<w.heap.size->w'.heap[k]?=w.heap[k]?:=λk ai=>oX.block k ai;refine⟨_,_,_,_,S,fK β bY (some (.slice (some ⟨w.heap.size,0,none⟩) 0 (grownCap w m 0 5),1)),fK og bY (some w.heap.size),he,ai,?_⟩;refine⟨Kept.xz oX ep.dZ,λ_ h=>h,λ_ h=>.inl h,.own _ bY _ _ (cV _ _ _),λj r aP=>by simp at aP,λj r aP=>?_,λid eg g aB dK=>?_,λid g aB=>?_,λid x ak=>?_,λb ag=>by have:=ep.dF b ag;omega,λid x hid ak=>?_⟩
   .match j with
    |0=>simp only[sY,ej]at aP;subst aP;rw[hw];have:=EE (P:=prog) (w:=w) (S:=S) (B:=(⟨B,cq,[]⟩:Ctx)) ep.dF ep.dZ hi fJ hq dJ fR jO qn (s:=.int .u8) arP.symm (es:=[]) (xs:=[]) bb VRels.nil bb (iM _) hle (w1:=w.drew) rfl (bD:=fK β bY (some (.slice (some ⟨w.heap.size,0,none⟩) 0 (grownCap w m 0 5),1))) (id:=bY) (cV _ _ _);show eb _ S B _ bY (fK og bY (some w.heap.size) bY) _;rw[cV];exact this
    |j+1=>simp at aP
   .by_cases e:id=bY<;>by_cases e':eg=bY
    .rw[e,e']
    .rw[e,cV]at aB;rw[fl _ _ _ _ e']at dK;cases aB;exact absurd (ep.lt _ _ dK) (mK _)
    .rw[e',cV]at dK;rw[fl _ _ _ _ e]at aB;cases dK;exact absurd (ep.lt _ _ aB) (mK _)
    .exact TD
   .by_cases e:id=bY
    .grind[cV]
    .rw[fl _ _ _ _ e]at aB;have:=ep.lt _ _ aB;omega
   .by_cases e:id=bY
    .rw[e,cV]at ak;cases ak;rfl
    grind[fl]
   grind[fl,Nat.ne_of_lt]
 .cases h'
def pc(e:AV):List AV:=(e.cells.headD .J).toList
def pX:List AV->Nat
 |[]=>0
 |e::r=>(pc e).length+pX r
noncomputable def Rx:Env:={pure:=[],opens:=[(147,cz De)]}
def Ry:aM prog Rx:=aM.iS bV arS
noncomputable def ace:Code:=((Tryz.f108.body.map c7).getD []).headD .skip
noncomputable def pd:Code:=(((Tryz.f108.body.map c7).getD []).tail).headD .skip
def acf:List AV->List (Option Row)->a6 cy
 |[.ab (.slice (.int .u8)) kb,.bf fy,.int .i64 z,.ab (.slice (.int .u8)) en,.int .i64 n,.int .i64 i],[]=>.bt (bl n i en.length&&decide (0<=z/\z+(pX (en.drop i.toNat):Nat)<=1000000)) (.leaf (.exit 0,[.ab (.slice (.int .u8)) kb,.bf fy,.int .i64 (z+(pX (en.drop i.toNat):Nat)),.ab (.slice (.int .u8)) en,.int .i64 n,.int .i64 en.length],[]))
 |_,_=>.no
def Rz:Ev.Loop:=⟨{len:=36,dr:=[0,2,3,9,10,11]},dP acf⟩
def arT(vs:List AV)(_:List (Option Row)):Nat:=match vs with
 |[_,_,_,_,.int _ n,.int _ i]=>(n-i).toNat
 |_=>0
def arU(K:List (Nat×Ev.Loop)):dj prog Rx K ace Rz:=by
 refine ed Ry.dX rfl (ch.nil aG) arT (λaj vs rs k r h=>?_);unfold acf at h;split at h
 .rename_i kb fy z en n i;obtain⟨aa,ai⟩:=bz h;simp only[ba]at aa;obtain⟨aa,ag⟩:=aa;obtain⟨rfl,an,j,rfl,aP⟩:=eA aa;rw[bK]at ai ag;refine bn (b:=have av:=(z+((pc (en.getD j .J)).length:Int));have az:=(en.length:Int);have aI:=(Sh.int .u8);have aO:=((j:Int)+(1:Int));have aF:=((pX (List.drop (i64.wrap aO).toNat en)):Int);bif decide ((j:Int)<az)then bif inb (j:Int) en.length then bif decide (i64.wrap av<(0:Int))then none else bif decide ((az-i64.wrap aO).toNat<(az-(j:Int)).toNat)then bif bl az (i64.wrap aO) en.length&&decide ((0:Int)<=i64.wrap av/\i64.wrap av+aF<=(1000000:Int))then k (.exit 0) [.ab aI.slice kb,.bf fy,.I (i64.wrap av+aF),.ab aI.slice en,.I az,.I az] []else none else none else none else k (.exit 0) [.ab aI.slice kb,.bf fy,.I z,.ab aI.slice en,.I az,.I (j:Int)] []) ?_;conv=>zeta
  rw[<-ai];obtain⟨af,ao⟩:=bH ag;by_cases aL:j<en.length
  .obtain⟨aU,bc,bw,bQ,bN⟩:=ew aL an;rw[Cx aL]at ao⊢;have RA:pX (en.getD j .J::en.drop (j+1))=(pc (en.getD j .J)).length+pX (en.drop (j+1)):=rfl;rw[RA]at ao⊢;have w1:i64.wrap (z+((pc (en.getD j .J)).length:Int))=z+((pc (en.getD j .J)).length:Int):=lT _ al al;have bp:decide (z+((pc (en.getD j .J)).length:Int)<0)=false:=cZ al;have aB:decide (0<=z+((pc (en.getD j .J)).length:Int)/\z+((pc (en.getD j .J)).length:Int)+(pX (en.drop (j+1)):Nat)<=1000000)=true:=aS ⟨al,al⟩;simp only[aU,bc,bw,bQ,bN,w1,bp,aB,b4,cU,oL,bK];show k _ [_,_,.int .i64 _,_,_,_] _=k _ [_,_,.int .i64 _,_,_,_] _;rw[Int.natCast_add,Int.add_assoc]
  .obtain rfl:j=en.length:=al;rw[cZ al,vm];show k _ [_,_,.int .i64 z,_,_,_] _=k _ [_,_,.int .i64 (z+0),_,_,_] _;rw[Int.add_zero]
 .cases h
def acg:List AV->List (Option Row)->a6 cy
 |[.own 900,.ab (.slice (.int .u8)) en,.int .i64 n,.int .i64 i],[some (.arr false (.int .u8) e out none)]=>.bt (bl n i en.length&&decide (out.length+pX (en.drop i.toNat)<=1000000/\e=5)) (.leaf (.exit 2,[.own 900,.ab (.slice (.int .u8)) en,.int .i64 n,.int .i64 en.length],[some (.arr false (.int .u8) e (out++(en.drop i.toNat).flatMap pc) none)]))
 |_,_=>.no
def RB:Ev.Loop:=⟨{len:=36,dr:=[6,25,26,27],rows:=[900],homes:=[(6,900,5)]},dP acg⟩
def arV(vs:List AV)(_:List (Option Row)):Nat:=match vs with
 |[_,_,.int _ n,.int _ i]=>(n-i).toNat
 |_=>0
def arW(K:List (Nat×Ev.Loop)):dj prog Rx K pd RB:=by
 refine ed Ry.dX rfl (ch.nil aG) arV (λaj vs rs k r h=>?_);unfold acg at h;split at h
 .rename_i en n i e out;obtain⟨aa,ai⟩:=bz h;simp only[ba]at aa;obtain⟨aa,ag⟩:=aa;obtain⟨rfl,an,j,rfl,aP⟩:=eA aa;rw[bK]at ai ag;obtain⟨af,rfl⟩:=bH ag;clear ag;refine bn (b:=have av:=(en.length:Int);have az:=(i64.wrap ((j:Int)+(1:Int)));have aF:=(Sh.int .u8);have aI:=(pc (en.getD j .J));bif decide ((j:Int)<av)then bif inb (j:Int) en.length then bif roomB (out.length+aI.length) (prog.bytesOf 5)then bif decide ((av-i64.wrap ((j:Int)+(1:Int))).toNat<(av-(j:Int)).toNat)then bif bl av az en.length&&decide ((out++aI).length+pX (List.drop az.toNat en)<=1000000/\5=(5:TypeId))then k (.exit 2) [.own 900,.ab aF.slice en,.I av,.I av] [some (.arr false aF 5 (out++aI++List.flatMap pc (List.drop az.toNat en)) none)]else none else none else none else none else k (.exit 2) [.own 900,.ab aF.slice en,.I av,.I (j:Int)] [some (.arr false aF 5 out none)]) ?_;conv=>zeta
  rw[<-ai];by_cases aL:j<en.length
  .obtain⟨aU,bc,bw,bQ,bN⟩:=ew aL an;rw[Cx aL]at af⊢;have RA:pX (en.getD j .J::en.drop (j+1))=(pc (en.getD j .J)).length+pX (en.drop (j+1)):=rfl;rw[RA]at af;have aD:roomB (out.length+(pc (en.getD j .J)).length) (prog.bytesOf 5)=true:=hW al acd;have aB:decide ((out++pc (en.getD j .J)).length+pX (en.drop (j+1))<=1000000/\True)=true:=aS ⟨Mj,trivial⟩;simp only[aU,bc,bw,bQ,bN,aD,aB,b4,oL,bK,eq_self_iff_true,mg,nm];rfl
  .obtain rfl:j=en.length:=al;rw[cZ al,vm];show k _ _ [some (.arr false (.int .u8) 5 out none)]=k _ _ [some (.arr false (.int .u8) 5 (out++[]) none)];rw[jy]
 .cases h
def RC:List AV->a6 AV
 |[.ab (.slice (.int .u8)) en]=>.bt (small en.length&&decide (pX en<=1000000)) (.leaf (.ab (.int .u8) (en.flatMap pc)))
 |_=>.no
def arX:SumOK prog 108 (aK RC)/\b5 (aK RC):=by
 refine xZ (K:=[(3,Rz),(11,RB)]) Ry Tryz.func108 (bs:=[ace,pd]) aG (λb ag=>?_) λaj aA k r h=>?_
 .simp at ag;rcases ag with rfl|rfl
  .exact⟨Rz,aG,arU _⟩
  .exact⟨RB,aG,arW _⟩
 unfold RC at h;split at h
 .rename_i en;obtain⟨aa,ai⟩:=bz h;simp only[ba]at aa;obtain⟨aa,ag⟩:=aa;refine bn (b:=have av:=(List.drop 0 en);have az:=((pX av):Int);bif bl (en.length:Int) (0:Int) en.length&&decide ((0:Int)<=(0:Int)/\(0:Int)+az<=(1000000:Int))then bif decide ((0:Int)<=(0:Int)+az/\(0:Int)+az<=(1000000:Int))then bif bl (en.length:Int) (0:Int) en.length&&decide (([]:List AV).length+pX av<=1000000/\(5:TypeId)=(5:TypeId))then k (.ab (.int .u8) ([]++List.flatMap pc av))else none else none else none) ?_;conv=>zeta
  rw[<-ai];have cp:=bH ag;rw[DE,Int.zero_add,pj,e1 aa];refine aT (a' (aV rfl (aS ⟨ui _,al⟩))) (aT (a' (aS ⟨al,al⟩)) (aT (a' (aV rfl (aS ⟨by show 0+_<=_;omega,by first|trivial|rfl⟩))) rfl))
 .cases h
def Lk:List AV->a6 AV
 |[.ab (.slice (.int .u8)) [.ab (.int .u8) a,.ab (.int .u8) b]]=>.bt (decide (a.length+b.length<=1000000)) (.leaf (.ab (.int .u8) (a++b)))
 |_=>.no
def arY:SumOK prog 108 (aK Lk)/\b5 (aK Lk):=by
 refine⟨λaj w S aA args k r cu ar h=>arX.1 aj w S aA args k r cu ar ?_,qD _⟩;change(Lk aA).run k=some r at h;unfold Lk at h;split at h
 .rename_i a b;obtain⟨aa,ai⟩:=bz h;have iD:=bH aa;show(a6.bt (small 2&&decide (a.length+(b.length+0)<=1000000)) (a6.leaf (.ab (.int .u8) (a++(b++[]))))).run k=some r;rw[lX,jy,aa];exact ai
 .cases h
end Go.Proofs.YtijdnecnjenleaaGreatDoor
