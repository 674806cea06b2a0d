/-
  The limits per domain hold: the card.
-/
import Derived.Test.YtijdnecnjenleaaGreatDoorKsB
import Derived.HandedShaped
import Derived.LaidMore
import Derived.Lay
import Derived.Lib.LaidU8
import Derived.Shelf.Unicode.PredsPay
import Derived.Test.YtijdnecnjenleaaGreatDoorTie
import Derived.Test.YtijdnecnjenleaaGreatDoorCards
set_option linter.all false
set_option maxRecDepth 100000
namespace Go.Proofs.YtijdnecnjenleaaGreatDoor
open Go.Ev
def aej:∀(l:List AV)(st:yo),pY st l.length->l.all jv=true->(∀g∈l,pZ g=false)->pY (l.foldl pf st) 0
 |[],_,h,_,_=>h
 |g::l,st,h,aB,ag=>by rw[lq,ba]at aB;exact aej l (pf st g) (RU h aB.1 (ag g (vi ..))) aB.2 λx ak=>ag x (oK _ ak)
theorem ath{m:Nat}(h:m<=3):pY ([],(0,([],true))) m where
 q:=aei
 z:=λ_ h=>cM
 len:=qT
 nx:=by show(0:Int)+m<=3;omega
 log:=gn
def ati{gs:List AV}(h:Dq gs=true):gs.length<=3/\∀g∈gs,pZ g=false:=by
 unfold Dq at h;simp only[ba,jZ,GN]at h;refine⟨al,λg aB=>?_⟩;obtain⟨i,hi,rfl⟩:=vj aB;have aJ:bx (wO gs) gs.length 0=none:=by
  cases aH:bx (wO gs) gs.length 0 with
  |none=>rfl
  |some q=>rw[aH]at h;cases h.2
 have af:=tK aJ i (iM _) hi;unfold wO at af;rw[List.getD,fC hi]at af;exact af
def aek{α:Type}(b:Bool){x:α}:(bif b then x else x)=x:=by cases b<;>rfl
def atj(gs ae:List AV)(aB:gs.all jv=true)(an:small gs.length=true)(aQ:small ae.length=true)(aj:Type)(k:AV->Option aj):
  jc Tryz.prog wL [(5,fq),(11,AU),(30,wM),(38,wN),(42,vh)] Tryz.f3 aj [.ab ln gs,.ab gm ae] k=k (.bool true):=by
 refine bn (b:=have av:=(List.foldl pf ([],(0:Int),[],true) (List.drop 0 gs));have az:=(AV.bool true);have aF:=((8:Nat),(9990:Nat),(49:TypeId));have aI:=(ae.length:Int);bif gs.all vc then bif !Dq gs then k az else bif decide (aI>(40:Int))then k az else bif bl (gs.length:Int) (0:Int) gs.length&&hv (gs.all jv=true/\(∀(g:AV),g∈gs->pZ g=false)/\pY ([],(0:Int),[],true) (gs.length-Int.toNat (0:Int)))then bif(0:Nat).beq gs.length then bif aF.snd.fst.beq 9990&&(bl aI (0:Int) ae.length&&(small gs.length&&decide (ae.length<=40)))then bif(mI (0:Int) (List.drop 0 ae) 0 ([],[])).fst then k az else k az else none else bif aF.snd.fst.beq 9990&&(bl aI (0:Int) ae.length&&(gs.all jv&&(small gs.length&&hv (ae.length<=40/\oH av.snd.fst 0 (av.fst,[])))))then bif(mI av.snd.fst (List.drop 0 ae) 0 (av.fst,[])).fst then k az else k az else none else none else none) ?_
 conv=>zeta
 have bg:gs.all vc=true:=ec.2 λg h=>by have af:=ec.1 aB g h;unfold jv at af;rw[ba]at af;exact af.1
 refine aT (a' bg) ?_
 cases au:Dq gs
 .rfl
 refine aT (fP rfl) ?_
 by_cases xb:(ae.length:Int)>40
 .exact a' (aS xb)
 refine aT (fP (cZ xb)) ?_
 obtain⟨ay,ag⟩:=ati au
 have a7:=ath ay
 have ael:bl (ae.length:Int) 0 ae.length=true:=e1 aQ
 refine aT (a' (aV (e1 an) (mN ⟨aB,ag,a7⟩))) ?_
 have af:=asL (aej gs _ a7 aB ag)
 have ao:ae.length<=40:=al
 cases Nat.beq 0 gs.length
 .refine aT (fP rfl) (aT (a' (aV rfl (aV ael (aV aB (aV an (mN ⟨ao,af⟩)))))) ?_);exact aek _
 .refine aT (a' rfl) (aT (a' (aV rfl (aV ael (aV an (aS ao))))) ?_);exact aek _
end Go.Proofs.YtijdnecnjenleaaGreatDoor
namespace Go.Ev
variable{cs:List AV}
def Gv{v:AV}(h:fE .str v=true):∃s,v=.str s:=by cases v<;>simp[fE]at h;exact⟨_,rfl⟩
def yx{s:Sh}{l:List Sh}(h:gg (s::l) cs=true):∃c ea,cs=c::ea/\fE s c=true/\gg l ea=true:=by
 cases cs with
 |nil=>simp[gg]at h
 |cons c ea=>simp only[gg,ba]at h;exact⟨c,ea,rfl,h.1,h.2⟩
def atk(h:gg [] cs=true):cs=[]:=by
 cases cs with
 |nil=>rfl
 |cons c ea=>simp[gg]at h
def R4{l:List Sh}{v:AV}(h:cb (.agg l) v=true):∃cs,v=.agg cs/\gg l cs=true:=by cases v<;>simp[cb]at h;exact⟨_,rfl,h⟩
def Fit.mS(h:Fit (.agg cs)):∀c∈cs,Fit c:=by
 cases h with
 |agg _ h=>exact h
def Fit.hO{s:List UInt8}(h:Fit (.str s)):s.length<=140737488351232:=by
 cases h with
 |str _ h=>exact h
def Gw{s:Sh}{v:AV}(h:fE (.slice s) v=true)(aR:Fit v):∃es,v=.ab s es/\es.length<=140737488351232/\(∀e∈es,cb s e=true)/\∀e∈es,Fit e:=by
 cases aR with
 |ab fF es hm _ an ly=>simp only[fE]at h;have e:=Sh.beq_eq _ _ h;subst e;exact⟨es,rfl,hm,an,ly⟩
 |_=>simp[fE]at h
def Fit.eT{k:IntKind}{n:Int}(h:Fit (.int k n)):(Lit.int k n).wf=true:=by
 cases h with
 |int _ _ h=>exact h
def aem{s:Sh}{l:List Sh}(h:hasAll (s::l) cs=true):∃c ea,cs=c::ea/\cb s c=true/\hasAll l ea=true:=by
 cases cs with
 |nil=>simp[hasAll]at h
 |cons c ea=>simp only[hasAll,ba]at h;exact⟨c,ea,rfl,h.1,h.2⟩
def atl(h:hasAll [] cs=true):cs=[]:=by
 cases cs with
 |nil=>rfl
 |cons c ea=>simp[hasAll]at h
end Go.Ev
namespace Go.Proofs.YtijdnecnjenleaaGreatDoor
open Go.Ev
variable{v:AV}
def ns(H:Type):Cf H:=⟨Rows.uptoBulk,Rows.uptoBulkAll,λ_=>rfl,λl=>by cases l<;>simp[Rows.uptoBulk],dc _,λ_=>rfl,λ_ _=>rfl,rfl,λ_ _=>rfl⟩
theorem own:ownKnob Tryz.prog.godebug=none:=aG
open Go.Ev Go.Shelf Go.Lib
open Go.Proofs.Tryz
def atm{H:Type}{enc:TypeId×Value->H}{a:Assume}{C:Checked}{os:Os}{f:FuncId}{fn:Func}{s:ChangeSpec}{conds:List PathCond}{apart fresh handsOn again:Bool}{X:World->Array Value->Prop}
  (eE:∀(w w':World)(args:Array Value),w.heap=w'.heap->X w args->X w' args)
  (own:ownKnob C.prog.godebug=none)(started:os.Started)(atn:C.prog.inits.idxOf? f=none)(dW:C.prog.funcs[f]?=some fn)
  (witness:∃(w:World)(tape:Tape)(i:Input),w.os=os/\(w.forCall tape i).Shaped C.prog/\i.vars=[]/\Input.okWide C.prog (w.forCall tape i) .any w.heap.size f i/\
   ((s.pre enc C.prog fn conds apart (w.forCall tape i).memory i.args/\X (w.forCall tape i).memory i.args)/\sizedMet enc C.prog fn (OpenSpec.ofChange s) apart (w.forCall tape i).memory i.args)/\a.holds C.prog (lone (Frame.enter C.prog f i.args .normal) [] (w.forCall tape i)))
  (ato:∀(W:World)(base:Nat)(args:Array Value)(ds gs:List (DataW H))(before:List MemPlace),(∀(j:Nat) t v,fn.params[j]?=some t->args[j]?=some v->Value.okWide C.prog W .any base t v)->
   DataW.Whole enc C.prog fn.params.toList s.vars apart W args.toList ds gs before->
   (DataW.weightsEach C.prog (fn.params.toList++s.plain.varTypes C.prog) (ds++gs)).all (·<=reachBytes)=true->W.ShapedOpen C.prog->X W args->
   Calls C.prog f args W λe pP=>∃v,e=.returned v/\s.post enc C.prog fn apart fresh handsOn again W args v pP):
  ReturnsInHanded a C os f .any (λw args=>(s.pre enc C.prog fn conds apart w args/\X w args)/\sizedMet enc C.prog fn (OpenSpec.ofChange s) apart w args) (s.post enc C.prog fn apart fresh handsOn again):=by
 refine returnsInHanded_of_calls own started atn witness ?_
 intro w tape i _ dd _ hT lM _
 obtain⟨_,_,_,atp,atq,_,_,_,_,q'⟩:=hT
 obtain rfl:atp=fn:=Ba (atq.symm.trans dW)
 obtain⟨⟨⟨ds,gs,before,hw,_⟩,ak⟩,bp⟩:=lM
 refine(ato (w.forCall tape i) w.heap.size i.args ds gs before q' (DataW.Whole.of_heap (w':=w.forCall tape i) (by rfl) hw) (bp.weights hw) dd (eE _ _ _ (by rfl) ak)).mono λe pP⟨v,he,au⟩=>?_
 subst he
 exact ChangeSpec.post_blind au
def atr{w w':World}{v:Value}(h:w.cell? ⟨0,0,none⟩=some v)(ai:Kept (λb=>b<w.heap.size) w w'):w'.cell? ⟨0,0,none⟩=some v:=by have a7:0<w.heap.size:=WB h;have:=ai.block 0 a7;unfold World.cell? at h⊢;rw[this];exact h
def ats{P:Program}{W:World}{name:String}{k:IntKind}{dL:List Int}{g:Nat}{t e:TypeId}{n:Nat}
  (aB:P.globalNamed name=some g)(I0:(P.globals[g]?).map (·.type)=some t)(aQ:P.underlying t=some (.array n e))(he:P.underlying e=some (.int k))(B3:P.cellsOf e=1)(att:P.cellsOf t=n)
  (h:VarReads P W name (tabData k dL)):TabIs P W name k dL:=by
 obtain⟨fm,b',cs,fuel,p,dK,pD,atu,aX⟩:=h
 obtain rfl:=Ba (aB.symm.trans dK)
 obtain rfl:=Ba (I0.symm.trans pD)
 unfold TabIs
 rw[atu,<-cells_of_tab aQ he B3 att aX]
def aen:List (String×DataW Unit):=Rows.topLimitsPerDomainRow.laid
theorem pow_eq:Rows.laid_internal_strconv_uint64pow10 (H:=Unit)=tabData .u64 pow10Tab:=aG
def atv:("internal/strconv.uint64pow10",tabData .u64 pow10Tab)∈aen:=by rw[<-pow_eq];exact .tail _ (.tail _ (.head _))
theorem atw:prog.globalNamed "internal/strconv.uint64pow10" =some 1:=aG
def atx{w:World}(dd:w.ShapedOpen prog)(h:laidMetH prog aen w):Glb (λb=>b<w.heap.size) w:=by
 rw[MakeChecks.laidMetH_plain _ _ _ aG]at h;obtain⟨m,hm⟩:=cell_of_shapedOpen_int (P:=prog) (w:=w) (g:=0) (t:=3) (zero:= #[.int .i64 0]) (k:=.i64) dd (bH aG) aG rfl aG aG Tryz.underlying3;have aQ:TabIs prog w "internal/strconv.uint64pow10" .u64 pow10Tab:=ats atw (t:=329) (e:=189) (n:=20) aG aG aG aG aG (laidMet.reads h atv)
 exactλw' ai=>⟨⟨m,atr hm ai⟩,TabIs_below (g:=1) aG aQ ai.below⟩
def aty(h:cb eR v=true)(aR:Fit v):eh v=true:=by obtain⟨cs,rfl,hh⟩:=R4 h;obtain⟨k9,cs,rfl,a7,hh⟩:=yx hh;obtain⟨n,rfl⟩:=Gv a7;have a:=(aR.mS (.str n) bb).hO;exact aS (by show n.length<=_;omega)
def atz(h:cb (.slice eR) v=true)(aR:Fit v):∃es,v=.ab eR es/\small es.length=true/\es.all eh=true:=by obtain⟨es,rfl,aU,bc,bw⟩:=Gw (s:=eR) h aR;exact⟨es,rfl,aS al,ec.2 λe he=>aty (bc e he) (bw e he)⟩
def atA(h:cb fb v=true)(aR:Fit v):okF v=true:=by obtain⟨cs,rfl,hh⟩:=R4 h;obtain⟨k9,cs,rfl,a7,hh⟩:=yx hh;obtain⟨b2,cs,rfl,af,hh⟩:=yx hh;obtain⟨n,rfl⟩:=Gv a7;obtain⟨m,rfl⟩:=Gv af;have a:=(aR.mS (.str n) bb).hO;have b:=(aR.mS (.str m) bb).hO;exact aV (aS (by show n.length<=_;omega)) (aS (by show m.length<=_;omega))
def atB(h:cb (.slice fb) v=true)(aR:Fit v):∃es,v=.ab fb es/\small es.length=true/\es.all okF=true:=by obtain⟨es,rfl,aU,bc,bw⟩:=Gw (s:=fb) h aR;exact⟨es,rfl,aS al,ec.2 λe he=>atA (bc e he) (bw e he)⟩
def atC(h:cb (.slice (.int .u8)) v=true)(aR:Fit v):∃es,v=.ab fv es/\es.length<=141000000000000:=by obtain⟨es,rfl,aU,bc,bw⟩:=Gw (s:=.int .u8) h aR;exact⟨es,rfl,al⟩
def open_ints(h:cb (.slice (.int .i64)) v=true)(aR:Fit v):∃es,v=.ab gm es/\small es.length=true:=by obtain⟨es,rfl,aU,bc,bw⟩:=Gw (s:=.int .i64) h aR;exact⟨es,rfl,aS al⟩
def atD(h:cb ln v=true)(aR:Fit v):jv v=true:=by obtain⟨cs,rfl,hh⟩:=R4 h;obtain⟨k9,cs,rfl,a7,hh⟩:=yx hh;obtain⟨b2,cs,rfl,af,hh⟩:=yx hh;obtain⟨bX,cs,rfl,ao,hh⟩:=yx hh;obtain⟨c3,cs,rfl,a1,hh⟩:=yx hh;obtain⟨mu,cs,rfl,ca,hh⟩:=yx hh;obtain rfl:=atk hh;obtain⟨f,rfl⟩:=Gv a7;obtain⟨ae,rfl,t1,t2⟩:=atz af (aR.mS _ bb);obtain⟨d,rfl⟩:=Gv ao;obtain⟨an,rfl,dn,c2⟩:=atB a1 (aR.mS _ bb);obtain⟨bs,rfl,w1⟩:=atC ca (aR.mS _ bb);have a:=(aR.mS (.str f) bb).hO;have b:=(aR.mS (.str d) bb).hO;have s1:ee f.length=true:=aS al;have s2:ee d.length=true:=aS al;have vY:small d.length=true:=aS al;have xR:small bs.length=true:=aS al;exact aV (aV (aV s1 (aV vY (aV t1 t2))) (aV dn (aV xR c2))) (aV s2 (aS w1))
def atE(h:cb (.slice ln) v=true)(aR:Fit v):∃gs,v=.ab ln gs/\small gs.length=true/\gs.all jv=true:=by obtain⟨es,rfl,aU,bc,bw⟩:=Gw (s:=ln) h aR;exact⟨es,rfl,aS al,ec.2 λe he=>atD (bc e he) (bw e he)⟩
def atF:SumOK prog 3 (jc prog wL [(5,fq),(11,AU),(30,wM),(38,wN),(42,vh)] Tryz.f3):=by
 refine XP (K:=[(5,fq),(11,AU),(30,wM),(38,wN),(42,vh)]) (bs:=[kq,LB,R2,LC,LD]) g3 Tryz.func3 aG (λb ag=>?_) (λaj aA k r h=>h);simp only[gv,mh,mi]at ag;rcases ag with rfl|rfl|rfl|rfl|rfl
 .exact⟨fq,aG,as7 _⟩
 .exact⟨AU,aG,atg⟩
 .exact⟨wM,aG,aeb _⟩
 .exact⟨wN,aG,aef⟩
 .exact⟨vh,aG,R3 _⟩
open Go
theorem aeo:Tryz.prog.funcNamed "posthouse/posthousetop.TopLimitsPerDomain" =some 3:=aG
theorem atG:Rows.topLimitsPerDomainRow.wf (OpenSpec.ofChange Rows.topLimitsPerDomainSpec)=true:=aG
theorem atH:laidOutB Tryz.prog=true:=aG
theorem atI:mapsRowed Tryz.prog=true:=aG
theorem atJ:Tryz.f3.params.all (Tryz.prog.readableRec ·)=true:=aG
theorem atK:namedTie Tryz.prog Rows.topLimitsPerDomainRow.named Rows.topLimitsPerDomainSpec.vars=true:=aG
theorem atL:(Rows.topLimitsPerDomainRow.stops==[])=true:=aG
theorem atM:(Tryz.prog.stops==[])=true:=aG
theorem atN:(Rows.topLimitsPerDomainRow.knobs==[])=true:=aG
theorem atO:(Tryz.prog.stopKnobs==[])=true:=aG
theorem atP:(Rows.topLimitsPerDomainRow.inPlace==Tryz.prog.inPlace 3)=true:=aG
theorem atQ:(Rows.topLimitsPerDomainRow.unfollowed==Tryz.prog.unfollowed 3)=true:=aG
theorem atS:(Rows.topLimitsPerDomainRow.recurses==Tryz.prog.recurses 3)=true:=aG
theorem atT:(Rows.topLimitsPerDomainRow.named==Tryz.prog.varsNamed 3)=true:=aG
noncomputable abbrev Dr:List TypeId:=Tryz.f3.params.toList++Rows.topLimitsPerDomainSpec.plain.varTypes Tryz.prog
theorem atU:(Rows.topLimitsPerDomainRow.maps==Dr.any (Tryz.prog.mapsRec ·))=true:=aG
theorem atV:(Rows.topLimitsPerDomainRow.ifaces==Dr.any (Tryz.prog.ifacesRec ·))=true:=aG
theorem atW:(Rows.topLimitsPerDomainRow.mapsOut==Tryz.prog.mapsAmong Tryz.f3.resultTypes.toList)=true:=aG
theorem atX:(Rows.topLimitsPerDomainRow.loops==Dr.any (Tryz.prog.loopsFrom ·))=true:=aG
theorem atY:(Rows.topLimitsPerDomainRow.wideKeys==(Dr++Tryz.f3.resultTypes.toList).any (Tryz.prog.wideKeysFrom ·))=true:=aG
theorem atZ:Rows.topLimitsPerDomainSpec.vars.all (Tryz.prog.varReadable ·)=true:=aG
theorem at0:Tryz.f3.resultTypes.all (λt=>Tryz.prog.readableRec t&&decide (t<Tryz.prog.types.size))=true:=aG
theorem at1:(Rows.topLimitsPerDomainRow.ifacesOut==Tryz.f3.resultTypes.toList.any (Tryz.prog.ifacesRec ·))=true:=aG
theorem at5:(Rows.topLimitsPerDomainRow.loopsOut==Tryz.f3.resultTypes.toList.any (Tryz.prog.loopsFrom ·))=true:=aG
theorem at6:(Rows.topLimitsPerDomainRow.plainKeys==Tryz.prog.plainKeys)=true:=aG
theorem at7:Rows.topLimitsPerDomainRow.shortTexts.isNone=true:=aG
theorem aua:Tryz.prog.stopsHeard=true:=aG
theorem aub:Tryz.prog.mayEnter=true:=aG
theorem auc:(Rows.topLimitsPerDomainRow.lifted==Tryz.prog.liftsFinal)=true:=aG
theorem aud:(Tryz.prog.make==some Rows.topLimitsPerDomainRow.make)=true:=aG
theorem aue:(Rows.topLimitsPerDomainRow.kinds==(if Rows.topLimitsPerDomainRow.domain.isEmpty then[]else Tryz.f3.params.toList.map λt=>match Tryz.prog.underlying t with|some (.int k)=>some k|_=>none))=true:=aG
theorem auf:(Rows.topLimitsPerDomainRow.pinned==Rows.topLimitsPerDomainRow.pinnedBy)=true:=aG
theorem aug:(Rows.topLimitsPerDomainRow.veiled==(Dr++Tryz.f3.resultTypes.toList).any (Tryz.prog.veiledRec ·))=true:=aG
theorem auh:Rows.topLimitsPerDomainRow.veiledFits Tryz.prog Tryz.f3.params.toList (Dr++Tryz.f3.resultTypes.toList)=true:=aG
theorem aui:Rows.topLimitsPerDomainRow.wfByText (OpenSpec.ofChange Rows.topLimitsPerDomainSpec)=true:=aG
theorem auj:true=Tryz.prog.looks []:=aG
theorem auk:false=Rows.topLimitsPerDomainRow.goesBy Tryz.prog:=aG
theorem aul:(Tryz.f3.params.toList.all λu=> !Tryz.prog.wantsStandIn u)=true:=aG
theorem aum:Tryz.prog.mainIs=some (true,"43343e81c6a8b9ac3870bdfbdf1fcd86bf29f8a577acdfc1c8bab7557a58af4d".toList):=aG
def iK{a b:Bool}(h:a=true)(k:b=true):(a&&b)=true:=by rw[h,k];rfl
def aun:joinedFacts Tryz.prog 3 Tryz.f3 Rows.topLimitsPerDomainSpec Rows.topLimitsPerDomainRow=true:=by unfold joinedFacts;exact iK (iK (iK (iK (iK (iK (iK (iK (iK (iK (iK (iK (iK (iK (iK (iK (iK (iK (iK (iK (iK (iK (iK (iK (iK (iK (iK (iK (iK (iK (iK atG atH) atI) atJ) atK) atL) atM) atN) atO) atP) atQ) atS) atT) atU) atV) atW) atX) atY) atZ) at0) at1) at5) at6) at7) aua) aub) auc) aud) aue) auf) aug) auh
def auo(H:Type):∀ds:List (DataW H),ds.length=Tryz.f3.params.size->Rows.topLimitsPerDomainSpec.fn H ds={results:=[.lit (.bool true)],args:=ds}
 |[_,_],_=>rfl
set_option maxRecDepth 100000 in
def aup(os:Os)(started:os.Started)(H:Type)(enc:TypeId×Value->H):
  ReturnsInHanded {} Tryz.checked os 3 .any (λw args=>(Rows.topLimitsPerDomainSpec.pre enc prog Tryz.f3 Rows.topLimitsPerDomainRow.domain false w args/\laidMetH prog Rows.topLimitsPerDomainRow.laid w)/\sizedMet enc prog Tryz.f3 (OpenSpec.ofChange Rows.topLimitsPerDomainSpec) false w args)
   (Rows.topLimitsPerDomainSpec.post enc prog Tryz.f3 false true false false):=by
 refine atm (C:=Tryz.checked) (X:=λw _=>laidMetH prog Rows.topLimitsPerDomainRow.laid w) (λ_ _ _ hh h=>h.of_heap hh) own started aG Tryz.func3
  (ChangeSpec.witness_shaped (enc:=enc) (C:=Tryz.checked) (os:=os) (X:=λw _=>laidMetH prog Rows.topLimitsPerDomainRow.laid w) false (World.laidAll prog os Rows.topLimitsPerDomainRow.laid) #[.slice none 0 0,.slice none 0 0] 8 (World.laidAll_os _ _ _)
   (World.shaped_of_ZipB aG aG) aG aG aG
   (by rw[MakeChecks.laidMetH_plain _ _ _ aG];exact laidMet_laidAll _ aG aG)) ?_
 intro W base args ds gs before q' kt bp dd ak
 refine ai1 (ns H) (n:=12) (tb:=4) (F:=jc prog wL [(5,fq),(11,AU),(30,wM),(38,wN),(42,vh)] Tryz.f3) aG aG aG rfl aG aG (auo H) (atF) (λaA aB=>?_) q' bp kt (atx dd ak)
 have hh:hasAll [.slice (.agg [.str,.slice (.agg [.str,.int .i64]),.str,.slice (.agg [.str,.str]),.slice (.int .u8)]),.slice (.int .i64)] aA=true:=aB.has
 obtain⟨v0,cs,rfl,a7,hh⟩:=aem hh
 obtain⟨v1,cs,rfl,af,hh⟩:=aem hh
 obtain rfl:=atl hh
 obtain⟨gs,rfl,iI,h9⟩:=atE a7 (aB.fit _ bb)
 obtain⟨ae,rfl,o4⟩:=open_ints af (aB.fit _ bb)
 exact atj gs ae h9 iI o4 _ _
def auq:Rows.TopLimitsPerDomainSaid:=
 OpenClaim.holds_of_wide 3 Tryz.f3 rfl rfl rfl rfl rfl rfl rfl ⟨rfl,rfl,rfl,rfl,rfl⟩ rfl rfl rfl rfl rfl aeo Tryz.func3 aun
  (bH aG) (by unfold Func.isWrapper;first|(rw[dE (by decide+kernel)];kernel_rfl)|(rw[c0 (by decide+kernel)];exact⟨rfl,rfl⟩))
  (λos started H enc _=>aup os started H enc)
theorem top_limits_per_domain:Rows.TopLimitsPerDomainCardSaid:=
 Claim7.holds_tied_plain_at .later [] [.data,.data,.data,.data,.sentinel,.sentinel,.pinned] true (true,"43343e81c6a8b9ac3870bdfbdf1fcd86bf29f8a577acdfc1c8bab7557a58af4d") true auq (λ_ h=>cM) aui (λ_ h=>cM) topLimitsPerDomain_row_tie rfl ⟨rfl,rfl⟩ aum rfl
  (λf fn aR dW=>by obtain rfl:f=3:=Ba (aeo.symm.trans aR)|>.symm;obtain rfl:fn=Tryz.f3:=(Ba (Tryz.func3.symm.trans dW)).symm;exact⟨auj,λj t aQ=>by have hm:t∈Tryz.f3.params.toList:=Array.mem_def.1 (Array.mem_of_getElem? aQ);exact(show prog.wantsStandIn t=false by simpa using ec.1 aul t hm)⟩)
  auk
end Go.Proofs.YtijdnecnjenleaaGreatDoor
