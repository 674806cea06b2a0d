/-
 The machine's operations,third part: stores,slices.
-/
import Derived.Test.YtijdnecnjenleaaGreatDoorKnS
import Derived.Test.YtijdnecnjenleaaGreatDoorEvFa
import Derived.Test.YtijdnecnjenleaaGreatDoorKnD

namespace Go.Proofs.YtijdnecnjenleaaGreatDoor
open Go.Ev
noncomputable def b18 : Code:=((Tryz.f18.body.map loopsOf).getD []).headD .skip
def L18 : List AV → List (Option Row) → Tr LOut
 | [.slv (.agg [.str,.int .i64]) es,.str d,.int .i64 z,.int .i64 i],[] =>
  .gd (cnt es.length i es.length) (sT (fun i=>isA d (es.getD i .unk)) es.length (fun q=>.leaf (.ret,[.slv sR es,.str d,.int .i64 (q : Nat),.int .i64 (q : Nat)],[]))
   (.leaf (.exit 0,[.slv sR es,.str d,.int .i64 z,.int .i64 es.length],[])) i.toNat)
 | _,_=>.no
def l18 : Ev.Loop:=⟨{ len:=20,slots:=[0,1,4,5] },ofL L18⟩
def μ18 (vs : List AV) (_ : List (Option Row)) : Nat:=match vs with
 | [.slv _ es,_,_,.int _ i]=>((es.length : Int) - i).toNat
 | _=>0
theorem loop18 : LoopOK Tryz.prog G0 [(2,l18)] b18 l18:=by
 refine loopT gE.natOK rfl (KOK.nil (by kernel_rfl)) μ18 (fun ρ vs rs k r h=>?_)
 unfold L18 at h
 split at h
 ·rename_i es d z i
  obtain ⟨hc,hk⟩:=gd_some h
  obtain ⟨_,hs,j,rfl,hj⟩:=cnt_spec hc
  rw [Int.toNat_natCast] at hk
  refine Eq.trans (b:=bif decide ((↑j : Int) < (↑es.length : Int)) then bif inb (↑j : Int) es.length then bif (pS (es.getD j AV.unk)) == d then k Ex.ret [AV.slv (Sh.agg [Sh.str,Sh.int IntKind.i64]) es,AV.str d,AV.int .i64 (↑j : Int),AV.int .i64 (↑j : Int)] [] else bif decide (((↑es.length : Int) - IntKind.i64.wrap ((↑j : Int) + (1 : Int))).toNat < ((↑es.length : Int) - (↑j : Int)).toNat) then bif cnt (↑es.length : Int) (IntKind.i64.wrap ((↑j : Int) + (1 : Int))) es.length then bif (findN (fun i=>isA d (es.getD i AV.unk)) es.length (IntKind.i64.wrap ((↑j : Int) + (1 : Int))).toNat).isSome then k Ex.ret [AV.slv (Sh.agg [Sh.str,Sh.int IntKind.i64]) es,AV.str d,AV.int .i64 (↑((findN (fun i=>isA d (es.getD i AV.unk)) es.length (IntKind.i64.wrap ((↑j : Int) + (1 : Int))).toNat).getD (0 : Nat)) : Int),AV.int .i64 (↑((findN (fun i=>isA d (es.getD i AV.unk)) es.length (IntKind.i64.wrap ((↑j : Int) + (1 : Int))).toNat).getD (0 : Nat)) : Int)] [] else k (Ex.exit (0 : Nat)) [AV.slv (Sh.agg [Sh.str,Sh.int IntKind.i64]) es,AV.str d,AV.int .i64 z,AV.int .i64 (↑es.length : Int)] [] else none else none else none else k (Ex.exit (0 : Nat)) [AV.slv (Sh.agg [Sh.str,Sh.int IntKind.i64]) es,AV.str d,AV.int .i64 z,AV.int .i64 (↑j : Int)] []) (by kernel_rfl) ?_
  rw [← hk]
  by_cases hlt : j < es.length
  ·obtain ⟨e1,e2,e3,e4,e5⟩:=cnt_facts hlt hs
   rw [sT_step _ _ _ _ _ hlt]
   have e7 : isA d (es.getD j .unk) = (pS (es.getD j .unk) == d):=rfl
   simp only [e1,e2,e3,e4,e5,e7,cond_true,Int.toNat_natCast]
   generalize (pS (es.getD j .unk) == d) = a1
   cases a1 <;> rfl
  ·obtain rfl : j = es.length:=by omega
   rw [decide_eq_false (by omega),sT_end]
   rfl
 ·cases h
def F18 : List AV → Tr AV
 | [.slv (.agg [.str,.int .i64]) es,.str d]=>.gd (small es.length) (.leaf (.int .i64 (iZ (fB d es 0))))
 | _=>.no
theorem ok18 : SumOK Tryz.prog 18 (ofT F18) ∧ SNat (ofT F18):=by
 refine fn1 (K:=[(2,l18)]) (b:=b18) (l:=l18) gE Tryz.func18 (by kernel_rfl) (by kernel_rfl) loop18 fun ρ avs k r h=>?_
 unfold F18 at h
 split at h
 ·rename_i es d
  obtain ⟨hc,hk⟩:=gd_some h
  refine Eq.trans (b:=bif cnt (↑es.length : Int) (0 : Int) es.length then bif (findN (fun i=>isA d (es.getD i AV.unk)) es.length (0 : Nat)).isSome then k (AV.int .i64 (↑((findN (fun i=>isA d (es.getD i AV.unk)) es.length (0 : Nat)).getD (0 : Nat)) : Int)) else k (AV.int .i64 (-1 : Int)) else none) (by kernel_rfl) ?_
  rw [← hk,cnt_zero hc]
  show (bif true then bif (fB d es 0).isSome then k (.int .i64 (((fB d es 0).getD 0 : Nat) : Int)) else k (.int .i64 (-1)) else none) = _
  cases fB d es 0 <;> rfl
 ·cases h
noncomputable def b19 : Code:=((Tryz.f19.body.map loopsOf).getD []).headD .skip
def L19 : List AV → List (Option Row) → Tr LOut
 | [.slv .str es,.str d,.bool z,.int .i64 i],[] =>
  .gd (cnt es.length i es.length) (sT (fun i=>isA d (es.getD i .unk)) es.length (fun q=>.leaf (.ret,[.slv .str es,.str d,.bool true,.int .i64 (q : Nat)],[]))
   (.leaf (.exit 0,[.slv .str es,.str d,.bool z,.int .i64 es.length],[])) i.toNat)
 | _,_=>.no
def l19 : Ev.Loop:=⟨{ len:=18,slots:=[0,1,4,5] },ofL L19⟩
theorem loop19 : LoopOK Tryz.prog G0 [(2,l19)] b19 l19:=by
 refine loopT gE.natOK rfl (KOK.nil (by kernel_rfl)) μ18 (fun ρ vs rs k r h=>?_)
 unfold L19 at h
 split at h
 ·rename_i es d z i
  obtain ⟨hc,hk⟩:=gd_some h
  obtain ⟨_,hs,j,rfl,hj⟩:=cnt_spec hc
  rw [Int.toNat_natCast] at hk
  refine Eq.trans (b:=bif decide ((↑j : Int) < (↑es.length : Int)) then bif inb (↑j : Int) es.length then bif (pS (es.getD j AV.unk)) == d then k Ex.ret [AV.slv Sh.str es,AV.str d,AV.bool true,AV.int .i64 (↑j : Int)] [] else bif decide (((↑es.length : Int) - IntKind.i64.wrap ((↑j : Int) + (1 : Int))).toNat < ((↑es.length : Int) - (↑j : Int)).toNat) then bif cnt (↑es.length : Int) (IntKind.i64.wrap ((↑j : Int) + (1 : Int))) es.length then bif (findN (fun i=>isA d (es.getD i AV.unk)) es.length (IntKind.i64.wrap ((↑j : Int) + (1 : Int))).toNat).isSome then k Ex.ret [AV.slv Sh.str es,AV.str d,AV.bool true,AV.int .i64 (↑((findN (fun i=>isA d (es.getD i AV.unk)) es.length (IntKind.i64.wrap ((↑j : Int) + (1 : Int))).toNat).getD (0 : Nat)) : Int)] [] else k (Ex.exit (0 : Nat)) [AV.slv Sh.str es,AV.str d,AV.bool z,AV.int .i64 (↑es.length : Int)] [] else none else none else none else k (Ex.exit (0 : Nat)) [AV.slv Sh.str es,AV.str d,AV.bool z,AV.int .i64 (↑j : Int)] []) (by kernel_rfl) ?_
  rw [← hk]
  by_cases hlt : j < es.length
  ·obtain ⟨e1,e2,e3,e4,e5⟩:=cnt_facts hlt hs
   rw [sT_step _ _ _ _ _ hlt]
   have e7 : isA d (es.getD j .unk) = (pS (es.getD j .unk) == d):=rfl
   simp only [e1,e2,e3,e4,e5,e7,cond_true,Int.toNat_natCast]
   generalize (pS (es.getD j .unk) == d) = a1
   cases a1 <;> rfl
  ·obtain rfl : j = es.length:=by omega
   rw [decide_eq_false (by omega),sT_end]
   rfl
 ·cases h
def F19 : List AV → Tr AV
 | [.slv .str es,.str d]=>.gd (small es.length) (.leaf (.bool (fB d es 0).isSome))
 | _=>.no
theorem ok19 : SumOK Tryz.prog 19 (ofT F19) ∧ SNat (ofT F19):=by
 refine fn1 (K:=[(2,l19)]) (b:=b19) (l:=l19) gE Tryz.func19 (by kernel_rfl) (by kernel_rfl) loop19 fun ρ avs k r h=>?_
 unfold F19 at h
 split at h
 ·rename_i es d
  obtain ⟨hc,hk⟩:=gd_some h
  refine Eq.trans (b:=bif cnt (↑es.length : Int) (0 : Int) es.length then bif (findN (fun i=>isA d (es.getD i AV.unk)) es.length (0 : Nat)).isSome then k (AV.bool true) else k (AV.bool false) else none) (by kernel_rfl) ?_
  rw [← hk,cnt_zero hc]
  show (bif true then bif (fB d es 0).isSome then k (.bool true) else k (.bool false) else none) = _
  cases fB d es 0 <;> rfl
 ·cases h
end Go.Proofs.YtijdnecnjenleaaGreatDoor


namespace Go.Mi
open Go.Ev (AV Sh Summ Env Ex find entersB isAggT placeOf partsKnown fieldOf evBin nilB shOf depth roomB lenB inb slb decA minInt maxInt union1 ancTab)
inductive MV where
 | unk
 | undef
 | int (k : IntKind) (n : Int)
 | bool (b : Bool)
 | str (s : List UInt8)
 | nl (v : Value)
 | agg (cs : List MV)
 | tup (cs : List MV)
 | ptr (id off : Nat)
 | slc (id off len cap wd : Nat)
 | slz
 | fn (f : Nat) (caps : List MV)
 | bnd (f : Nat) (first : List MV)
 | mp (id : Nat)
 | it (id : Nat)
 | yld (id : Nat)
 deriving Inhabited
inductive LObj where
 | cells (frz : Bool) (cs : List MV)
 | map (es : List (MV × MV × Nat)) (clock : Nat)
 | iter (s : List UInt8) (pos : Nat)
 | loop (busy : Bool) (tm : List MV) (ps : Array Tmp) (assign body : Code)
 deriving Inhabited
structure MSt where
 tm : List MV
 h : List (Nat × LObj)
 nx : Nat
noncomputable def nth (l : List MV) : Nat → MV :=
 @List.rec MV (fun _=>Nat → MV) (fun _=>.unk) (fun a _ ih n=>@Nat.rec (fun _=>MV) a (fun m _=>ih m) n) l
noncomputable def put (v : MV) (l : List MV) : Nat → List MV :=
 @List.rec MV (fun _=>Nat → List MV) (fun _=>[]) (fun a l ih n=>@Nat.rec (fun _=>List MV) (v :: l) (fun m _=>a :: ih m) n) l
noncomputable def get (h : List (Nat × LObj)) (id : Nat) : Option LObj :=
 @List.rec (Nat × LObj) (fun _=>Option LObj) none (fun a _ ih=>bif Nat.beq a.1 id then some a.2 else ih) h
noncomputable def del (h : List (Nat × LObj)) (id : Nat) : List (Nat × LObj) :=
 @List.rec (Nat × LObj) (fun _=>List (Nat × LObj)) [] (fun a _ ih=>bif Nat.beq a.1 id then ih else a :: ih) h
noncomputable def set1 (h : List (Nat × LObj)) (p : Nat × Option LObj) : List (Nat × LObj) :=
 match p.2 with
 | some o=>(p.1,o) :: del h p.1
 | none=>del h p.1
mutual
def MV.av : MV → AV
 | .undef=>.undef
 | .int k n=>.int k n
 | .bool b=>.bool b
 | .str s=>.str s
 | .nl _=>.nl
 | .agg cs=>.agg (MV.avs cs)
 | .tup cs=>.tup (MV.avs cs)
 | .fn f cs=>.fn f (MV.avs cs)
 | _=>.unk
def MV.avs : List MV → List AV
 | []=>[]
 | c :: cs=>c.av :: MV.avs cs
end
mutual
def ofAV : AV → Option MV
 | .undef=>some .undef
 | .int k n=>some (.int k n)
 | .bool b=>some (.bool b)
 | .str s=>some (.str s)
 | .agg cs=>match ofAVs cs with
  | some l=>some (.agg l)
  | none=>none
 | .tup cs=>match ofAVs cs with
  | some l=>some (.tup l)
  | none=>none
 | _=>none
def ofAVs : List AV → Option (List MV)
 | []=>some []
 | c :: cs=>match ofAV c with
  | none=>none
  | some m=>match ofAVs cs with
   | some l=>some (m :: l)
   | none=>none
end
def ofCell : Value → MV
 | .int k n=>.int k n
 | .bool b=>.bool b
 | .string s=>.str s.data.toList
 | .slice none 0 0=>.slz
 | v=>if nilB v then .nl v else .unk
def ofConst : Value → MV
 | .agg cs=>if cs.toList.all Value.oneCell' then .agg (cs.toList.map ofCell) else .unk
 | .tuple vs=>if vs.size = 0 then .undef else .unk
 | v=>ofCell v
def MV.cells : MV → List MV
 | .agg cs=>cs
 | v=>[v]
def MV.laid : MV → Bool
 | .unk | .undef | .tup _=>false
 | _=>true
noncomputable def mval (tm : List MV) : Operand → MV
 | .tmp t=>nth tm t
 | .const v=>ofConst v
 | .func f=>.fn f []
 | .global _=>.unk
noncomputable def mvals (tm : List MV) : List Operand → List MV
 | []=>[]
 | x :: xs=>mval tm x :: mvals tm xs
structure MEff where
 v : MV
 reads : List Nat:=[]
 sets : List (Nat × Option LObj):=[]
noncomputable def cellsAt (h : List (Nat × LObj)) (id : Nat) : Option (List MV) :=
 match get h id with
 | some (.cells _ cs)=>some cs
 | _=>none
def splice (cs : List MV) (off : Nat) (new : List MV) : List MV:=cs.take off ++ new ++ cs.drop (off + new.length)
def zeroM (P : Program) (t : TypeId) : Option (List MV) :=
 match P.info? t with
 | some i=>match i.zero with
  | some v=>if (ofConst v).laid then some (ofConst v).cells else none
  | none=>none
 | none=>none
def zerosM (P : Program) (e : TypeId) : Nat → Option (List MV)
 | 0=>some []
 | n + 1=>match zeroM P e,zerosM P e n with
  | some z,some l=>some (z ++ l)
  | _,_=>none
def fillM (place : Nat → Option (Nat × Nat)) (cells : List MV) : List (Nat × MV) → Option (List MV)
 | []=>some cells
 | (i,v) :: rest =>
  match place i with
  | none=>none
  | some p =>
   if v.laid && (v.cells.length == p.2 && Nat.ble (p.1 + v.cells.length) cells.length) then fillM place (splice cells p.1 v.cells) rest else none
def loadM {ρ : Type} (P : Program) (t : TypeId) (cs : List MV) (y : MV → Option ρ) : Option ρ :=
 if isAggT P t then
  (if Nat.ble (P.cellsOf t) cs.length then y (.agg (cs.take (P.cellsOf t))) else none)
 else if (P.underlying t).isSome then
  match cs with
  | c :: _=>y c
  | []=>none
 else none
def intM : MV → Option Int
 | .int _ n=>some n
 | _=>none
def bndM (d : Nat) : Option MV → Option Int
 | none=>some d
 | some v=>intM v
def elemM (P : Program) (e : TypeId) : Bool :=
 match P.info? e with
 | some i=>Nat.blt 0 i.size && ((match i.zero with | some z=>z.cells.size == i.size | none=>false) && (zeroM P e).isSome)
 | none=>false
def bytesM (s : List UInt8) : List MV:=s.map fun b=>.int .u8 (b.toNat : Int)
def strM (cs : List MV) : Option (List UInt8) :=
 match cs with
 | []=>some []
 | .int .u8 n :: cs=>match strM cs with
  | some l=>some (UInt8.ofNat n.toNat :: l)
  | none=>none
 | _=>none
noncomputable def elemsM (h : List (Nat × LObj)) (wd : Nat) : MV → Option (List MV × List Nat)
 | .slz=>some ([],[])
 | .slc id off len _ wd'=>if Nat.beq wd wd' then (match cellsAt h id with
  | some cs=>if Nat.ble (off + len * wd) cs.length then some ((cs.drop off).take (len * wd),[id]) else none
  | none=>none) else none
 | _=>none
noncomputable def srcM (P : Program) (h : List (Nat × LObj)) (e t' : TypeId) (z : MV) : Option (List MV × List Nat) :=
 match P.underlying t' with
 | some .string=>match z with
  | .str b=>if Nat.beq (P.cellsOf e) 1 then some (bytesM b,[]) else none
  | _=>none
 | some (.slice e')=>if Nat.beq e e' then elemsM h (P.cellsOf e) z else none
 | _=>none
noncomputable def appTo {ρ : Type} (P : Program) (nid : Nat) (e : TypeId) (q : List MV × List Nat) (x : MV) (h : List (Nat × LObj)) (y : MEff → Option ρ) : Option ρ :=
 match x with
 | .slz=>if q.1.isEmpty then y { v:=.slz,reads:=q.2 } else
  if roomB (q.1.length / P.cellsOf e) (P.bytesOf e) then
   y { v:=.slc nid 0 (q.1.length / P.cellsOf e) (q.1.length / P.cellsOf e) (P.cellsOf e),reads:=q.2,sets:=[(nid,some (.cells false q.1))] }
  else none
 | .slc id off len cap wd =>
  if !Nat.beq wd (P.cellsOf e) then none else
  if q.1.isEmpty then y { v:=.slc id off len cap wd,reads:=q.2 } else
  match get h id with
  | some (.cells false cs) =>
   if Nat.ble (len + q.1.length / wd) cap then
    (if Nat.ble (off + len * wd + q.1.length) cs.length then
     y { v:=.slc id off (len + q.1.length / wd) cap wd,reads:=id :: q.2,sets:=[(id,some (.cells false (splice cs (off + len * wd) q.1)))] }
    else none)
   else if Nat.ble (off + len * wd) cs.length && roomB (len + q.1.length / wd) (P.bytesOf e) then
    y { v:=.slc nid 0 (len + q.1.length / wd) (len + q.1.length / wd) wd,reads:=id :: q.2,sets:=[(id,none),(nid,some (.cells false ((cs.drop off).take (len * wd) ++ q.1)))] }
   else none
  | _=>none
 | _=>none
noncomputable def appendM {ρ : Type} (P : Program) (nid : Nat) (ts : List TypeId) (args : List MV) (h : List (Nat × LObj)) (y : MEff → Option ρ) : Option ρ :=
 match ts,args with
 | [t,t'],[x,z] =>
  match P.underlying t with
  | some (.slice e) =>
   if !elemM P e then none else
   match P.underlying t',x,z with
   | some (.int _),.slz,.int .i64 n =>
    if decide (0 < n) && (decide (n ≤ 100000) && roomB n.toNat (P.bytesOf e)) then (match zerosM P e n.toNat with
     | some l=>y { v:=.slc nid 0 n.toNat n.toNat (P.cellsOf e),sets:=[(nid,some (.cells false l))] }
     | none=>none) else none
   | _,_,_ =>
   match srcM P h e t' z with
   | none=>none
   | some q =>
    appTo P nid e q x h y
  | _=>none
 | _,_=>none
noncomputable def builtinM {ρ : Type} (P : Program) (nid : Nat) (b : Builtin) (ts : List TypeId) (args : List MV) (h : List (Nat × LObj)) (y : MEff → Option ρ) : Option ρ :=
 match b with
 | .append=>appendM P nid ts args h y
 | .len =>
  match ts,args with
  | t :: _,[x] =>
   match P.underlying t,x with
   | some .string,.str s=>y { v:=.int .i64 s.length }
   | some (.slice _),.slz=>y { v:=.int .i64 0 }
   | some (.slice _),.slc _ _ len _ _=>y { v:=.int .i64 len }
   | _,_=>none
  | _,_=>none
 | .cap =>
  match ts,args with
  | t :: _,[.slz] =>
   match P.underlying t with
   | some (.slice _)=>y { v:=.int .i64 0 }
   | _=>none
  | _,_=>none
 | .copy =>
  match ts,args with
  | [t,t'],[x,z] =>
   match P.underlying t with
   | some (.slice e) =>
    match srcM P h e t' z with
    | none=>none
    | some q =>
     match x with
     | .slc id off len _ wd =>
      if !Nat.beq wd (P.cellsOf e) || !elemM P e then none else
      match get h id with
      | some (.cells false cs) =>
       if Nat.ble (off + min (q.1.length / wd) len * wd) cs.length then
        y { v:=.int .i64 (min (q.1.length / wd) len : Nat),reads:=id :: q.2,sets:=[(id,some (.cells false (splice cs off (q.1.take (min (q.1.length / wd) len * wd)))))] }
       else none
      | _=>none
     | _=>none
   | _=>none
  | _,_=>none
 | .clear =>
  match ts,args with
  | [t],[x] =>
   match P.underlying t,x with
   | some (.slice _),.slz=>y { v:=.undef }
   | some (.slice _),.slc _ _ 0 _ _=>y { v:=.undef }
   | some (.slice e),.slc id off len _ _ =>
    if !elemM P e || Nat.beq len 0 then none else
    match get h id,zerosM P e len with
    | some (.cells false cs),some z =>
     if Nat.ble (off + z.length) cs.length then y { v:=.undef,reads:=[id],sets:=[(id,some (.cells false (splice cs off z)))] } else none
    | _,_=>none
   | _,_=>none
  | _,_=>none
 | .min =>
  match args with
  | .int kk x :: rest=>match minInt kk x (MV.avs rest) with
   | some n=>y { v:=.int kk n }
   | none=>none
  | _=>none
 | .max =>
  match args with
  | .int kk x :: rest=>match maxInt kk x (MV.avs rest) with
   | some n=>y { v:=.int kk n }
   | none=>none
  | _=>none
 | _=>none
def keyEq (P : Program) (kt : TypeId) (k k' : MV) : Option Bool :=
 match P.underlying kt,k,k' with
 | some (.int kk),.int j a,.int j' b=>if j = kk ∧ j' = kk then some (a == b) else none
 | some .string,.str a,.str b=>some (a == b)
 | some .bool,.bool a,.bool b=>some (a == b)
 | _,_,_=>none
def keyOk (P : Program) (kt : TypeId) (k : MV) : Bool :=
 match P.underlying kt,k with
 | some (.int j),.int j' _=>decide (j = j')
 | some .string,.str _=>true
 | some .bool,.bool _=>true
 | some (.struct fs),.agg cs=>fs.toList.all fun f=>match P.underlying f.type,cs[f.offset]? with
  | some (.int j),some (.int j' _)=>decide (j = j')
  | some .string,some (.str _)=>true
  | some .bool,some (.bool _)=>true
  | _,_=>false
 | _,_=>false
def findM (P : Program) (kt : TypeId) (k : MV) : List (MV × MV × Nat) → Nat → Option (Option (Nat × MV × Nat))
 | [],_=>some none
 | e :: es,i=>match keyEq P kt k e.1 with
  | some true=>some (some (i,e.2.1,e.2.2))
  | some false=>findM P kt k es (i + 1)
  | none=>none
def setVal (es : List (MV × MV × Nat)) (i : Nat) (v : MV) : List (MV × MV × Nat) :=
 match es,i with
 | [],_=>[]
 | e :: es,0=>(e.1,v,e.2.2) :: es
 | e :: es,i + 1=>e :: setVal es i v
def findBorn (b : Int) : List (MV × MV × Nat) → Nat → Option Nat
 | [],_=>none
 | e :: es,i=>if (e.2.2 : Int) == b then some i else findBorn b es (i + 1)
def zeroV (P : Program) (t : TypeId) : Option MV :=
 match P.info? t with
 | some i=>i.zero.map ofConst
 | none=>none
def nilM (P : Program) (t : TypeId) (x : MV) (z : Operand) : Option Bool :=
 match z with
 | .const c =>
  match P.underlying t,x,c with
  | some (.interface _),.nl .nilIface,.nilIface=>some true
  | some (.pointer _),.nl (.pointer none),.pointer none=>some true
  | some (.pointer _),.ptr _ _,.pointer none=>some false
  | some (.func _ _ _),.nl .nilFunc,.nilFunc=>some true
  | some (.func _ _ _),.fn _ _,.nilFunc=>some false
  | some (.func _ _ _),.bnd _ _,.nilFunc=>some false
  | some (.map _ _),.nl (.map none),.map none=>some true
  | some (.map _ _),.mp _,.map none=>some false
  | _,_,_=>none
 | _=>none
noncomputable def evOp {ρ : Type} (P : Program) (nid : Nat) (o : Oper) (tm : List MV) (h : List (Nat × LObj)) (y : MEff → Option ρ) : Option ρ :=
 match o.op with
 | .move x | .assign x=>y { v:=mval tm x }
 | .pick c a b =>
  match mval tm c with
  | .bool t=>bif t then y { v:=mval tm a } else y { v:=mval tm b }
  | _=>none
 | .alloc t =>
  match zeroM P t with
  | some cs=>y { v:=.ptr nid 0,sets:=[(nid,some (.cells false cs))] }
  | none=>none
 | .box _ x =>
  if (mval tm x).laid then y { v:=.ptr nid 0,sets:=[(nid,some (.cells false (mval tm x).cells))] } else none
 | .build t parts =>
  match zeroM P t with
  | some cs =>
   if partsKnown P t then
    match fillM (placeOf P t) cs (parts.toList.map fun p=>(p.1,mval tm p.2)) with
    | some cs'=>y { v:=.agg cs' }
    | none=>none
   else none
  | none=>none
 | .buildSlice t len parts =>
  match P.underlying t with
  | some (.slice e) =>
   if !elemM P e || (Nat.blt 1000 len || Nat.blt 1000 (P.cellsOf e)) then none else
   match zerosM P e len with
   | some z =>
    match fillM (fun i=>some (i * P.cellsOf e,P.cellsOf e)) z (parts.toList.map fun p=>(p.1,mval tm p.2)) with
    | some cs=>y { v:=.slc nid 0 len len (P.cellsOf e),sets:=[(nid,some (.cells false cs))] }
    | none=>none
   | none=>none
  | _=>none
 | .load t a =>
  match mval tm a with
  | .ptr id off=>match cellsAt h id with
   | some cs=>loadM P t (cs.drop off) fun v=>y { v,reads:=[id] }
   | none=>none
  | _=>none
 | .store t a x =>
  if (mval tm x).laid && ((mval tm x).cells.length == P.cellsOf t && P.cellsOf t != 0) then
   match mval tm a with
   | .ptr id off=>match get h id with
    | some (.cells false cs) =>
     if Nat.ble (off + (mval tm x).cells.length) cs.length then
      y { v:=.undef,reads:=[id],sets:=[(id,some (.cells false (splice cs off (mval tm x).cells)))] }
     else none
    | _=>none
   | _=>none
  else none
 | .nilCheck x =>
  match mval tm x with
  | .ptr id off=>y { v:=.ptr id off }
  | .fn f cs=>y { v:=.fn f cs }
  | .bnd f cs=>y { v:=.bnd f cs }
  | .yld id=>y { v:=.yld id }
  | _=>none
 | .binOp op t x z _ =>
  if Go.Ev.isNilC z then
   match P.underlying t,op,mval tm x with
   | some (.slice _),.eql,.slz=>y { v:=.bool true }
   | some (.slice _),.neq,.slz=>y { v:=.bool false }
   | some (.slice _),.eql,.slc ..=>y { v:=.bool false }
   | some (.slice _),.neq,.slc ..=>y { v:=.bool true }
   | _,_,_=>none
  else match nilM P t (mval tm x) z with
   | some b=>(match op with
    | .eql=>y { v:=.bool b }
    | .neq=>y { v:=.bool !b }
    | _=>none)
   | none=>evBin P op t (mval tm x).av (mval tm z).av fun v=>match ofAV v with
    | some m=>y { v:=m }
    | none=>none
 | .unOp op _ x =>
  match op,mval tm x with
  | .neg,.int kk n=>y { v:=.int kk (kk.wrap (0 - n)) }
  | .not,.bool b=>y { v:=.bool !b }
  | .xor,.int kk n=>y { v:=.int kk (kk.wrap (BitVec.ofInt kk.bits (if kk.signed then -1 else kk.max) ^^^ BitVec.ofInt kk.bits n).toNat) }
  | _,_=>none
 | .convert src dst x =>
  match P.underlying src,P.underlying dst,mval tm x with
  | some (.int _),some (.int kk),.int _ n=>y { v:=.int kk (kk.wrap n) }
  | some .string,some .string,.str s=>y { v:=.str s }
  | some .string,some (.slice e),.str s =>
   if Go.Ev.byteT P e && (elemM P e && Nat.beq (P.cellsOf e) 1) then
    (if lenB s.length then y { v:=.slc nid 0 s.length s.length 1,sets:=[(nid,some (.cells false (bytesM s)))] } else none)
   else none
  | some (.slice e),some .string,.slz=>if Go.Ev.byteT P e then y { v:=.str [] } else none
  | some (.slice e),some .string,.slc id off len cap wd =>
   if Go.Ev.byteT P e && Nat.beq wd 1 then
    match elemsM h 1 (.slc id off len cap wd) with
    | some q=>match strM q.1 with
     | some s=>y { v:=.str s,reads:=q.2 }
     | none=>none
    | none=>none
   else none
  | some (.slice e),some (.slice _),.slc id off len cap wd =>
   if Nat.beq src dst && Go.Ev.byteT P e then
    match get h id with
    | some (.cells frz cs)=>y { v:=.slc id off len cap wd,reads:=[id],sets:=[(id,some (.cells frz cs))] }
    | _=>none
   else none
  | _,_,_=>none
 | .makeFunc (.func f) first captured =>
  if first.size = 0 then y { v:=.fn f (mvals tm captured.toList) } else if captured.size = 0 then y { v:=.bnd f (mvals tm first.toList) } else none
 | .makeMap _ r =>
  match r with
  | none=>y { v:=.mp nid,sets:=[(nid,some (.map [] 0))] }
  | some _=>none
 | .makeSlice t l c =>
  match P.underlying t,mval tm l,mval tm c with
  | some (.slice e),.int .i64 n,.int .i64 m =>
   if elemM P e && (decide (n ≤ m) && (decide (0 ≤ n) && (decide (m ≤ 100000) && roomB m.toNat (P.bytesOf e)))) then
    match zerosM P e m.toNat with
    | some z=>y { v:=.slc nid 0 n.toNat m.toNat (P.cellsOf e),sets:=[(nid,some (.cells false z))] }
    | none=>none
   else none
  | _,_,_=>none
 | .slice t x lo hi mx =>
  match P.underlying t,mval tm x with
  | some .string,.str s =>
   if mx.isNone then
    match bndM 0 (lo.map (mval tm)),bndM s.length (hi.map (mval tm)) with
    | some l,some n=>bif slb l n s.length then y { v:=.str ((s.drop l.toNat).take (n.toNat - l.toNat)) } else none
    | _,_=>none
   else none
  | some (.slice e),.slz =>
   match bndM 0 (lo.map (mval tm)),bndM 0 (hi.map (mval tm)),bndM 0 (mx.map (mval tm)) with
   | some l,some n,some m=>if (mx.isNone || hi.isSome) && ((l == 0) && ((n == 0) && ((m == 0) && (P.info? e).isSome))) then y { v:=.slz } else none
   | _,_,_=>none
  | some (.slice e),.slc id off len cap wd =>
   if !Nat.beq wd (P.cellsOf e) then none else
   match bndM 0 (lo.map (mval tm)),bndM len (hi.map (mval tm)),bndM cap (mx.map (mval tm)) with
   | some l,some n,some m=>if (mx.isNone || hi.isSome) && (decide (0 ≤ l) && (decide (l ≤ n) && (decide (n ≤ m) && decide (m ≤ cap)))) then
     y { v:=.slc id (off + l.toNat * wd) (n.toNat - l.toNat) (m.toNat - l.toNat) wd } else none
   | _,_,_=>none
  | some (.array k e),.ptr id off =>
   if Nat.beq (P.cellsOf e) 0 then none else
   match bndM 0 (lo.map (mval tm)),bndM k (hi.map (mval tm)),cellsAt h id with
   | some l,some n,some cs=>if Nat.ble k 1000000 && (mx.isNone && (decide (0 ≤ l) && (decide (l ≤ n) && (decide (n ≤ k) && Nat.ble (off + k * P.cellsOf e) cs.length)))) then
     y { v:=.slc id (off + l.toNat * P.cellsOf e) (n.toNat - l.toNat) (k - l.toNat) (P.cellsOf e),reads:=[id] } else none
   | _,_,_=>none
  | _,_=>none
 | .fieldAddr t x f =>
  match fieldOf P t f with
  | some fl =>
   if P.cellsOf fl.type == 0 then none else
   match mval tm x with
   | .ptr id off=>y { v:=.ptr id (off + fl.offset) }
   | _=>none
  | none=>none
 | .field t x f =>
  match fieldOf P t f with
  | some fl =>
   match mval tm x with
   | .agg cs=>loadM P fl.type (cs.drop fl.offset) fun v=>y { v }
   | _=>none
  | none=>none
 | .indexAddr t x i =>
  match mval tm i with
  | .int _ n =>
   match P.underlying t,mval tm x with
   | some (.slice e),.slc id off len _ wd=>if Nat.beq wd (P.cellsOf e) && (P.info? e).isSome then (bif inb n len then y { v:=.ptr id (off + n.toNat * wd) } else none) else none
   | some (.array len e),.ptr id off=>if (P.info? e).isSome then (bif inb n len then y { v:=.ptr id (off + n.toNat * P.cellsOf e) } else none) else none
   | _,_=>none
  | _=>none
 | .index t x i =>
  match mval tm i with
  | .int _ n =>
   match P.underlying t,mval tm x with
   | some .string,.str s=>bif inb n s.length then y { v:=.int .u8 ((s.getD n.toNat 0).toNat) } else none
   | some (.array len e),.agg cs=>bif inb n len then loadM P e (cs.drop (n.toNat * P.cellsOf e)) fun v=>y { v } else none
   | _,_=>none
  | _=>none
 | .extract x i =>
  match mval tm x with
  | .tup vs=>match vs[i]? with
   | some v=>y { v }
   | none=>none
  | _=>none
 | .range t x =>
  match P.underlying t,mval tm x with
  | some .string,.str s=>y { v:=.it nid,sets:=[(nid,some (.iter s 0))] }
  | _,_=>none
 | .next x true =>
  match mval tm x with
  | .it id=>match get h id with
   | some (.iter s p) =>
    bif Nat.blt p s.length then y { v:=.tup [.bool true,.int .i64 p,.int .i32 (decA s p).1],reads:=[id],sets:=[(id,some (.iter s (p + (decA s p).2)))] }
    else y { v:=.tup [.bool false],reads:=[id] }
   | _=>none
  | _=>none
 | .lookup t x k ok =>
  match P.underlying t with
  | some (.map kt et) =>
   if !keyOk P kt (mval tm k) then none else
   match mval tm x with
   | .mp id=>match get h id with
    | some (.map es _) =>
     match findM P kt (mval tm k) es 0,zeroV P et with
     | some (some q),_=>y { v:=bif ok then .tup [q.2.1,.bool true] else q.2.1,reads:=[id] }
     | some none,some z=>y { v:=bif ok then .tup [z,.bool false] else z,reads:=[id] }
     | _,_=>none
    | _=>none
   | _=>none
  | _=>none
 | .mapUpdate t m k x =>
  match P.underlying t with
  | some (.map kt _) =>
   if !keyOk P kt (mval tm k) then none else
   match mval tm m with
   | .mp id=>match get h id with
    | some (.map es c) =>
     match findM P kt (mval tm k) es 0 with
     | some (some q)=>y { v:=.undef,reads:=[id],sets:=[(id,some (.map (setVal es q.1 (mval tm x)) c))] }
     | some none=>y { v:=.undef,reads:=[id],sets:=[(id,some (.map (es ++ [(mval tm k,mval tm x,c)]) (c + 1)))] }
     | none=>none
    | _=>none
   | _=>none
  | _=>none
 | .mapEntry t m k =>
  match P.underlying t with
  | some (.map kt et) =>
   if !keyOk P kt (mval tm k) then none else
   match mval tm m with
   | .mp id=>match get h id with
    | some (.map es c) =>
     match findM P kt (mval tm k) es 0,zeroV P et with
     | some (some q),_=>y { v:=.tup [q.2.1,.int .i64 q.2.2],reads:=[id],sets:=[(id,some (.map es c))] }
     | some none,some z=>y { v:=.tup [z,.int .i64 c],reads:=[id],sets:=[(id,some (.map (es ++ [(mval tm k,z,c)]) (c + 1)))] }
     | _,_=>none
    | _=>none
   | _=>none
  | _=>none
 | .entryStore _ m s x =>
  match mval tm m,mval tm s with
  | .mp id,.int _ b=>match get h id with
   | some (.map es c) =>
    match findBorn b es 0 with
    | some i=>y { v:=.undef,reads:=[id],sets:=[(id,some (.map (setVal es i (mval tm x)) c))] }
    | none=>none
   | _=>none
  | _,_=>none
 | .call { callee:=.builtin b,args,argTypes }=>builtinM P nid b argTypes.toList (mvals tm args.toList) h y
 | _=>none
end Go.Mi


namespace Go.Mi
open Go.RowKit
open Go.Ev (AV Sh Summ Env Ex nilB VRel VRels Kept Glb)
theorem nth_eq : ∀ (l : List MV) (n : Nat),nth l n = l.getD n .unk
 | [],n=>by simp [nth]
 | a :: l,0=>rfl
 | a :: l,n + 1=>by
  show nth l n = _
  rw [nth_eq l n]
  simp
theorem put_eq (v : MV) : ∀ (l : List MV) (n : Nat),put v l n = l.set n v
 | [],n=>by simp [put]
 | a :: l,0=>rfl
 | a :: l,n + 1=>by
  show a :: put v l n = _
  rw [put_eq v l n]
  simp
theorem get_nil (id : Nat) : get [] id = none:=rfl
theorem get_cons (a : Nat × LObj) (h : List (Nat × LObj)) (id : Nat) : get (a :: h) id = if a.1 = id then some a.2 else get h id:=by
 show (bif Nat.beq a.1 id then some a.2 else get h id) = _
 by_cases e : a.1 = id
 ·rw [if_pos e,e,Nat.beq_refl];rfl
 ·have : Nat.beq a.1 id = false:=by
   cases hb : Nat.beq a.1 id
   ·rfl
   ·exact absurd (Nat.eq_of_beq_eq_true hb) e
  rw [if_neg e,this];rfl
theorem del_cons (a : Nat × LObj) (h : List (Nat × LObj)) (id : Nat) : del (a :: h) id = if a.1 = id then del h id else a :: del h id:=by
 show (bif Nat.beq a.1 id then del h id else a :: del h id) = _
 by_cases e : a.1 = id
 ·rw [if_pos e,e,Nat.beq_refl];rfl
 ·have : Nat.beq a.1 id = false:=by
   cases hb : Nat.beq a.1 id
   ·rfl
   ·exact absurd (Nat.eq_of_beq_eq_true hb) e
  rw [if_neg e,this];rfl
theorem get_del : ∀ (h : List (Nat × LObj)) (id i : Nat),get (del h id) i = if i = id then none else get h i
 | [],id,i=>by simp [del,get]
 | a :: h,id,i=>by
  rw [del_cons]
  by_cases e : a.1 = id
  ·rw [if_pos e,get_del h id i,get_cons]
   by_cases e' : i = id
   ·rw [if_pos e',if_pos e']
   ·rw [if_neg e',if_neg e',if_neg (fun h=>e' (by rw [← h,e]))]
  ·rw [if_neg e,get_cons,get_cons,get_del h id i]
   by_cases e' : i = id
   ·subst e'
    rw [if_pos rfl,if_pos rfl,if_neg e]
   ·rw [if_neg e',if_neg e']
theorem get_set1 (h : List (Nat × LObj)) (p : Nat × Option LObj) (i : Nat) : get (set1 h p) i = if i = p.1 then p.2 else get h i:=by
 obtain ⟨id,x⟩:=p
 cases x with
 | none=>exact get_del h id i
 | some o =>
  show get ((id,o) :: del h id) i = _
  rw [get_cons,get_del]
  show (if id = i then some o else if i = id then none else get h i) = if i = id then some o else get h i
  by_cases e : i = id
  ·subst e;rw [if_pos rfl,if_pos rfl]
  ·rw [if_neg (fun h=>e h.symm),if_neg e,if_neg e]
structure Pl where
 g : Nat
 sh : Nat
 sz : Nat
abbrev Io:=Nat → Option Pl
inductive MRel (ι : Io) : MV → Value → Prop
 | unk (v : Value) : MRel ι .unk v
 | undef : MRel ι .undef Go.undef
 | int (k : IntKind) (n : Int) : MRel ι (.int k n) (.int k n)
 | bool (b : Bool) : MRel ι (.bool b) (.bool b)
 | str (s : List UInt8) : MRel ι (.str s) (.string ⟨s.toArray⟩)
 | nl (v : Value) (h : nilB v = true) : MRel ι (.nl v) v
 | agg (cs : List MV) (vs : List Value) (hl : vs.length = cs.length) (h1 : ∀ u ∈ vs,u.oneCell' = true)
   (h : ∀ (j : Nat) (c : MV) (u : Value),cs[j]? = some c → vs[j]? = some u → MRel ι c u) : MRel ι (.agg cs) (.agg vs.toArray)
 | tup (cs : List MV) (vs : List Value) (hl : vs.length = cs.length)
   (h : ∀ (j : Nat) (c : MV) (u : Value),cs[j]? = some c → vs[j]? = some u → MRel ι c u) : MRel ι (.tup cs) (.tuple vs.toArray)
 | ptr (id off : Nat) (p : Pl) (hp : ι id = some p) : MRel ι (.ptr id off) (.pointer (some ⟨p.g,p.sh + off,none⟩))
 | slc (id off len cap wd : Nat) (p : Pl) (o cap' : Nat) (hp : ι id = some p) (hl : len ≤ cap) (hc : cap ≤ cap') (hm : cap' ≤ maxLen) (ho : 0 < cap → o = p.sh + off) (hs : p.sh ≤ o) (hz : o + cap' * wd ≤ p.sz) (hw : 0 < wd) :
   MRel ι (.slc id off len cap wd) (.slice (some ⟨p.g,o,none⟩) len cap')
 | slz : MRel ι .slz (.slice none 0 0)
 | fn (f : Nat) (cs : List MV) (vs : List Value) (hl : vs.length = cs.length)
   (h : ∀ (j : Nat) (c : MV) (u : Value),cs[j]? = some c → vs[j]? = some u → MRel ι c u) : MRel ι (.fn f cs) (.func (.func f) #[] vs.toArray)
 | bnd (f : Nat) (cs : List MV) (vs : List Value) (hl : vs.length = cs.length)
   (h : ∀ (j : Nat) (c : MV) (u : Value),cs[j]? = some c → vs[j]? = some u → MRel ι c u) : MRel ι (.bnd f cs) (.func (.func f) vs.toArray #[])
 | mp (id : Nat) (p : Pl) (hp : ι id = some p) : MRel ι (.mp id) (.map (some p.g))
 | it (id : Nat) (p : Pl) (hp : ι id = some p) : MRel ι (.it id) (.pointer (some ⟨p.g,0,none⟩))
 | yld (id : Nat) (p : Pl) (hp : ι id = some p) : MRel ι (.yld id) (.func (.yield p.g) #[] #[])
def MRels (ι : Io) (cs : List MV) (vs : List Value) : Prop :=
 vs.length = cs.length ∧ ∀ (j : Nat) (c : MV) (u : Value),cs[j]? = some c → vs[j]? = some u → MRel ι c u
def Ext (ι ι' : Io) : Prop:=∀ id p,ι id = some p → ι' id = some p
theorem Ext.refl (ι : Io) : Ext ι ι:=fun _ _ h=>h
theorem Ext.trans {ι ι' ι'' : Io} (h : Ext ι ι') (h' : Ext ι' ι'') : Ext ι ι'':=fun id p hp=>h' id p (h id p hp)
theorem MRel.mono {ι ι' : Io} {c : MV} {v : Value} (h : MRel ι c v) (he : Ext ι ι') : MRel ι' c v:=by
 induction h with
 | unk v=>exact .unk v
 | undef=>exact .undef
 | int k n=>exact .int k n
 | bool b=>exact .bool b
 | str s=>exact .str s
 | nl v h=>exact .nl v h
 | agg cs vs hl h1 _ ih=>exact .agg cs vs hl h1 fun j c u hc hu=>ih j c u hc hu
 | tup cs vs hl _ ih=>exact .tup cs vs hl fun j c u hc hu=>ih j c u hc hu
 | ptr id off p hp=>exact .ptr id off p (he _ _ hp)
 | slc id off len cap wd p o cap' hp hl hc hm ho hs hz hw=>exact .slc id off len cap wd p o cap' (he _ _ hp) hl hc hm ho hs hz hw
 | slz=>exact .slz
 | fn f cs vs hl _ ih=>exact .fn f cs vs hl fun j c u hc hu=>ih j c u hc hu
 | bnd f cs vs hl _ ih=>exact .bnd f cs vs hl fun j c u hc hu=>ih j c u hc hu
 | mp id p hp=>exact .mp id p (he _ _ hp)
 | it id p hp=>exact .it id p (he _ _ hp)
 | yld id p hp=>exact .yld id p (he _ _ hp)
theorem MRels.mono {ι ι' : Io} {cs : List MV} {vs : List Value} (h : MRels ι cs vs) (he : Ext ι ι') : MRels ι' cs vs:=⟨h.1,fun j c u hc hu=>(h.2 j c u hc hu).mono he⟩
theorem MRels.nil {ι : Io} : MRels ι [] []:=⟨rfl,fun j c u hc=>by simp at hc⟩
theorem MRels.cons {ι : Io} {c : MV} {cs : List MV} {v : Value} {vs : List Value} (h : MRel ι c v) (hs : MRels ι cs vs) : MRels ι (c :: cs) (v :: vs):=by
 refine ⟨by simp [hs.1],fun j x u hx hu=>?_⟩
 cases j with
 | zero=>simp at hx hu;subst hx;subst hu;exact h
 | succ j=>simp at hx hu;exact hs.2 j x u hx hu
theorem MRels.inv {ι : Io} {c : MV} {cs : List MV} {vs : List Value} (h : MRels ι (c :: cs) vs) : ∃ v vs',vs = v :: vs' ∧ MRel ι c v ∧ MRels ι cs vs':=by
 cases vs with
 | nil=>have:=h.1;simp at this
 | cons v vs'=>exact ⟨v,vs',rfl,h.2 0 c v rfl rfl,by have:=h.1;simpa using this,fun j x u hx hu=>h.2 (j + 1) x u (by simpa using hx) (by simpa using hu)⟩
theorem MRels.inv_nil {ι : Io} {vs : List Value} (h : MRels ι [] vs) : vs = []:=List.eq_nil_of_length_eq_zero (by simpa using h.1)
theorem MRels.append {ι : Io} {cs ds : List MV} {vs us : List Value} (h : MRels ι cs vs) (h' : MRels ι ds us) : MRels ι (cs ++ ds) (vs ++ us):=by
 induction cs generalizing vs with
 | nil=>rw [h.inv_nil];simpa using h'
 | cons c cs ih=>obtain ⟨v,vs',rfl,hv,hvs⟩:=h.inv;exact MRels.cons hv (ih hvs)
theorem MRels.drop {ι : Io} {cs : List MV} {vs : List Value} (h : MRels ι cs vs) (n : Nat) : MRels ι (cs.drop n) (vs.drop n) :=
 ⟨by simp [h.1],fun j c u hc hu=>h.2 (n + j) c u (by simpa using hc) (by simpa using hu)⟩
theorem MRels.take {ι : Io} {cs : List MV} {vs : List Value} (h : MRels ι cs vs) (n : Nat) : MRels ι (cs.take n) (vs.take n):=by
 refine ⟨by simp [h.1],fun j c u hc hu=>?_⟩
 rw [List.getElem?_take] at hc hu
 split at hc
 ·rename_i hj;rw [if_pos hj] at hu;exact h.2 j c u hc hu
 ·cases hc
theorem MRels.at_ {ι : Io} {cs : List MV} {vs : List Value} (h : MRels ι cs vs) {j : Nat} {c : MV} (hc : cs[j]? = some c) : ∃ u,vs[j]? = some u ∧ MRel ι c u:=by
 have hj : j < vs.length:=by rw [h.1];exact (List.getElem?_eq_some_iff.1 hc).1
 exact ⟨vs[j],List.getElem?_eq_getElem hj,h.2 j c _ hc (List.getElem?_eq_getElem hj)⟩
theorem MRels.set {ι : Io} {cs : List MV} {vs : List Value} (h : MRels ι cs vs) (d : Nat) {v : MV} {u : Value} (hv : MRel ι v u) : MRels ι (cs.set d v) (vs.set d u):=by
 refine ⟨by simp [h.1],fun j c x hc hx=>?_⟩
 rw [List.getElem?_set] at hc hx
 by_cases e : d = j
 ·subst e
  simp only [if_pos] at hc hx
  split at hc
  ·split at hx
   ·cases hc;cases hx;exact hv
   ·cases hx
  ·cases hc
 ·rw [if_neg e] at hc hx
  exact h.2 j c x hc hx
theorem MRel.agg_inv {ι : Io} {cs : List MV} {v : Value} (h : MRel ι (.agg cs) v) : ∃ vs : List Value,v = .agg vs.toArray ∧ MRels ι cs vs ∧ ∀ u ∈ vs,u.oneCell' = true:=by
 cases h with
 | agg _ vs hl h1 h=>exact ⟨vs,rfl,⟨hl,h⟩,h1⟩
theorem MRel.tup_inv {ι : Io} {cs : List MV} {v : Value} (h : MRel ι (.tup cs) v) : ∃ vs : List Value,v = .tuple vs.toArray ∧ MRels ι cs vs:=by
 cases h with
 | tup _ vs hl h=>exact ⟨vs,rfl,hl,h⟩
theorem MRel.bool_inv {ι : Io} {b : Bool} {v : Value} (h : MRel ι (.bool b) v) : v = .bool b:=by cases h;rfl
theorem MRel.int_inv {ι : Io} {k : IntKind} {n : Int} {v : Value} (h : MRel ι (.int k n) v) : v = .int k n:=by cases h;rfl
theorem MRel.str_inv {ι : Io} {s : List UInt8} {v : Value} (h : MRel ι (.str s) v) : v = .string ⟨s.toArray⟩:=by cases h;rfl
theorem MRel.slz_inv {ι : Io} {v : Value} (h : MRel ι .slz v) : v = .slice none 0 0:=by cases h;rfl
theorem MRel.laid {ι : Io} {c : MV} {v : Value} (h : MRel ι c v) (hb : c.laid = true) : ∃ us : List Value,v.cells = us.toArray ∧ MRels ι c.cells us ∧ ∀ u ∈ us,u.oneCell' = true:=by
 have one : ∀ (c : MV) (v : Value),c.cells = [c] → v.cells = #[v] → v.oneCell' = true → MRel ι c v →
   ∃ us : List Value,v.cells = us.toArray ∧ MRels ι c.cells us ∧ ∀ u ∈ us,u.oneCell' = true:=fun c v hc hv h1 h =>
  ⟨[v],by simp [hv],by rw [hc];exact MRels.cons h MRels.nil,by simpa using h1⟩
 cases h with
 | unk v=>simp [MV.laid] at hb
 | undef=>simp [MV.laid] at hb
 | int k n=>exact one _ _ rfl rfl rfl (.int k n)
 | bool b=>exact one _ _ rfl rfl rfl (.bool b)
 | str s=>exact one _ _ rfl rfl rfl (.str s)
 | nl v h=>exact one _ _ rfl (by cases v <;> first | rfl | (simp [nilB] at h)) (by cases v <;> first | rfl | (simp [nilB] at h)) (.nl v h)
 | agg cs vs hl h1 h=>exact ⟨vs,rfl,⟨hl,h⟩,h1⟩
 | tup cs vs hl h=>simp [MV.laid] at hb
 | ptr id off p hp=>exact one _ _ rfl rfl rfl (.ptr id off p hp)
 | slc id off len cap wd p o cap' hp hl hc hm ho hs hz hw=>exact one _ _ rfl rfl rfl (.slc id off len cap wd p o cap' hp hl hc hm ho hs hz hw)
 | slz=>exact one _ _ rfl rfl rfl .slz
 | fn f cs vs hl h=>exact one _ _ rfl rfl rfl (.fn f cs vs hl h)
 | bnd f cs vs hl h=>exact one _ _ rfl rfl rfl (.bnd f cs vs hl h)
 | mp id p hp=>exact one _ _ rfl rfl rfl (.mp id p hp)
 | it id p hp=>exact one _ _ rfl rfl rfl (.it id p hp)
 | yld id p hp=>exact one _ _ rfl rfl rfl (.yld id p hp)
theorem ofCell_rel {ι : Io} (v : Value) : MRel ι (ofCell v) v:=by
 unfold ofCell
 split
 ·exact .int _ _
 ·exact .bool _
 ·rename_i s;exact .str s.data.toList
 ·exact .slz
 ·split
  ·rename_i h;exact .nl _ h
  ·exact .unk _
theorem ofConst_rel {ι : Io} (v : Value) : MRel ι (ofConst v) v:=by
 unfold ofConst
 split
 ·rename_i cs
  split
  ·rename_i h
   have h1 : ∀ u ∈ cs.toList,u.oneCell' = true:=fun u hu=>List.all_eq_true.1 h u hu
   have:=MRel.agg (ι:=ι) (cs.toList.map ofCell) cs.toList (by simp) h1 fun j c u hc hu=>by
    rw [List.getElem?_map,hu] at hc
    cases hc
    exact ofCell_rel u
   simpa using this
  ·exact .unk _
 ·rename_i vs
  split
  ·rename_i h
   have : vs = #[]:=Array.size_eq_zero_iff.1 h
   subst this
   exact .undef
  ·exact .unk _
 ·exact ofCell_rel v
theorem getD_rel {ι : Io} {tm : List MV} {tmps : Array Value} (h : MRels ι tm tmps.toList) (n : Nat) : MRel ι (nth tm n) (tmps.getD n undef):=by
 rw [nth_eq]
 cases ht : tm[n]? with
 | none=>simp only [List.getD,ht,Option.getD_none];exact .unk _
 | some c =>
  obtain ⟨u,hu,hr⟩:=h.at_ ht
  have : tmps.getD n undef = u:=by
   rw [Array.getElem?_toList] at hu
   simp [Array.getD_eq_getD_getElem?,hu]
  rw [this]
  simp only [List.getD,ht,Option.getD_some]
  exact hr
theorem mval_rel {ι : Io} {tm : List MV} {a : Act} (h : MRels ι tm a.tmps.toList) (x : Operand) : MRel ι (mval tm x) (a.eval x):=by
 cases x with
 | tmp t=>exact getD_rel h t
 | const v=>exact ofConst_rel v
 | func f=>exact .fn f [] [] rfl fun j c u hc=>by simp at hc
 | global g=>exact .unk _
theorem mvals_rel {ι : Io} {tm : List MV} {a : Act} (h : MRels ι tm a.tmps.toList) : ∀ (xs : List Operand),MRels ι (mvals tm xs) (xs.map a.eval)
 | []=>MRels.nil
 | x :: xs=>MRels.cons (mval_rel h x) (mvals_rel h xs)
theorem avs_len : ∀ cs : List MV,(MV.avs cs).length = cs.length
 | []=>rfl
 | c :: cs=>by simp [MV.avs,avs_len cs]
theorem avs_at : ∀ (cs : List MV) (j : Nat) (c : AV),(MV.avs cs)[j]? = some c → ∃ m,cs[j]? = some m ∧ c = m.av
 | [],j,c,h=>by simp [MV.avs] at h
 | x :: cs,0,c,h=>by simp [MV.avs] at h;exact ⟨x,rfl,h.symm⟩
 | x :: cs,j + 1,c,h=>by
  simp only [MV.avs,List.getElem?_cons_succ] at h
  obtain ⟨m,h1,h2⟩:=avs_at cs j c h
  exact ⟨m,by simpa using h1,h2⟩
theorem MRel.av {ι : Io} {m : MV} {v : Value} (h : MRel ι m v) (w : World) (S : Nat → Prop) (β : Go.Ev.Bet) : VRel w S β m.av v:=by
 induction h with
 | unk v=>exact .unk _ _
 | undef=>exact .undef _
 | int k n=>exact .int _ k n
 | bool b=>exact .bool _ b
 | str s=>exact .str _ s
 | nl v h=>exact .nl _ v h
 | agg cs vs hl h1 _ ih =>
  refine .agg _ _ vs (by rw [avs_len];exact hl) h1 fun j c u hc hu=>?_
  obtain ⟨m,hm,rfl⟩:=avs_at cs j c hc
  exact ih j m u hm hu
 | tup cs vs hl _ ih =>
  refine .tup _ _ vs (by rw [avs_len];exact hl) fun j c u hc hu=>?_
  obtain ⟨m,hm,rfl⟩:=avs_at cs j c hc
  exact ih j m u hm hu
 | ptr id off p hp=>exact .unk _ _
 | slc id off len cap wd p o cap' hp hl hc hm ho hs hz hw=>exact .unk _ _
 | slz=>exact .unk _ _
 | fn f cs vs hl _ ih =>
  refine .fn _ f _ vs (by rw [avs_len];exact hl) fun j c u hc hu=>?_
  obtain ⟨m,hm,rfl⟩:=avs_at cs j c hc
  exact ih j m u hm hu
 | bnd f cs vs hl _ ih=>exact .unk _ _
 | mp id p hp=>exact .unk _ _
 | it id p hp=>exact .unk _ _
 | yld id p hp=>exact .unk _ _
theorem MRels.avs {ι : Io} {cs : List MV} {vs : List Value} (h : MRels ι cs vs) (w : World) (S : Nat → Prop) (β : Go.Ev.Bet) : VRels w S β (MV.avs cs) vs :=
 ⟨by rw [avs_len];exact h.1,fun j c u hc hu=>by
  obtain ⟨m,hm,rfl⟩:=avs_at cs j c hc
  exact (h.2 j m u hm hu).av w S β⟩
theorem ofAVs_at : ∀ (cs : List AV) (ms : List MV),ofAVs cs = some ms → ms.length = cs.length ∧ ∀ (j : Nat) (m : MV),ms[j]? = some m → ∃ c,cs[j]? = some c ∧ ofAV c = some m
 | [],ms,h=>by simp [ofAVs] at h;subst h;exact ⟨rfl,fun j m hm=>by simp at hm⟩
 | c :: cs,ms,h=>by
  simp only [ofAVs] at h
  split at h
  ·cases h
  ·rename_i m hm
   split at h
   ·rename_i l hl
    cases h
    obtain ⟨h1,h2⟩:=ofAVs_at cs l hl
    refine ⟨by simp [h1],fun j x hx=>?_⟩
    cases j with
    | zero=>simp at hx;subst hx;exact ⟨c,rfl,hm⟩
    | succ j=>obtain ⟨c',h3,h4⟩:=h2 j x (by simpa using hx);exact ⟨c',by simpa using h3,h4⟩
   ·cases h
theorem ofAV_rel {ι : Io} {w : World} {S : Nat → Prop} {β : Go.Ev.Bet} {c : AV} {v : Value} (h : VRel w S β c v) : ∀ {m : MV},ofAV c = some m → MRel ι m v:=by
 induction h with
 | undef=>intro m e;simp [ofAV] at e;subst e;exact .undef
 | int β k n=>intro m e;simp [ofAV] at e;subst e;exact .int k n
 | bool β b=>intro m e;simp [ofAV] at e;subst e;exact .bool b
 | str β s=>intro m e;simp [ofAV] at e;subst e;exact .str s
 | agg β cs vs hl h1 _ ih =>
  intro m e
  simp only [ofAV] at e
  split at e
  ·rename_i l hl'
   cases e
   obtain ⟨e1,e2⟩:=ofAVs_at cs l hl'
   refine .agg l vs (by rw [e1];exact hl) h1 fun j x u hx hu=>?_
   obtain ⟨c,hc,hcx⟩:=e2 j x hx
   exact ih j c u hc hu hcx
  ·cases e
 | tup β cs vs hl _ ih =>
  intro m e
  simp only [ofAV] at e
  split at e
  ·rename_i l hl'
   cases e
   obtain ⟨e1,e2⟩:=ofAVs_at cs l hl'
   refine .tup l vs (by rw [e1];exact hl) fun j x u hx hu=>?_
   obtain ⟨c,hc,hcx⟩:=e2 j x hx
   exact ih j c u hc hu hcx
  ·cases e
 | _=>intro m e;simp [ofAV] at e
def Ents (ι : Io) : List (MV × MV × Nat) → List MapEntry → Prop
 | [],[]=>True
 | e :: es,x :: xs=>MRel ι e.1 x.key ∧ MRel ι e.2.1 x.val ∧ x.born = e.2.2 ∧ Ents ι es xs
 | _,_=>False
def ORel (w : World) (ι : Io) (p : Pl) : LObj → Prop
 | .cells frz cs=>∃ (arr : List Value) (t : TypeId) (fz : Nat × Nat),w.heap[p.g]? = some (.cells arr.toArray t fz) ∧ arr.length = p.sz ∧ (frz = false → fz = (0,0) ∨ fz = (arr.length,arr.length + 1)) ∧ p.sh + cs.length ≤ p.sz ∧
   (∀ u ∈ arr,u.oneCell' = true) ∧ MRels ι cs ((arr.drop p.sh).take cs.length)
 | .map es clock=>∃ xs : List MapEntry,w.heap[p.g]? = some (.map xs.toArray clock) ∧ Ents ι es xs
 | .iter s pos=>w.heap[p.g]? = some (.stringIter ⟨s.toArray⟩ pos)
 | .loop busy tm ps assign body=>∃ (r : Go.Loop),w.heap[p.g]? = some (.loop r) ∧ r.state = (bif busy then .busy else .ready) ∧ r.pending = none ∧ r.params = ps ∧ r.assign = assign ∧ r.body = body ∧ MRels ι tm r.tmps.toList
theorem Ents.mono {ι ι' : Io} (he : Ext ι ι') : ∀ {es : List (MV × MV × Nat)} {xs : List MapEntry},Ents ι es xs → Ents ι' es xs
 | [],[],_=>trivial
 | _ :: _,_ :: _,h=>⟨h.1.mono he,h.2.1.mono he,h.2.2.1,Ents.mono he h.2.2.2⟩
 | [],_ :: _,h=>h.elim
 | _ :: _,[],h=>h.elim
theorem ORel.keep {w w' : World} {ι ι' : Io} {p : Pl} {o : LObj} (h : ORel w ι p o) (he : Ext ι ι') (hw : w'.heap[p.g]? = w.heap[p.g]?) : ORel w' ι' p o:=by
 cases o with
 | cells frz cs=>obtain ⟨arr,t,fz,h1,h2,h3,h4,h5,h6⟩:=h;exact ⟨arr,t,fz,hw.trans h1,h2,h3,h4,h5,h6.mono he⟩
 | map es clock=>obtain ⟨xs,h1,h2⟩:=h;exact ⟨xs,hw.trans h1,h2.mono he⟩
 | iter s pos=>exact hw.trans h
 | loop busy tm ps assign body=>obtain ⟨r,h1,h2,h3,h4,h5,h6,h7⟩:=h;exact ⟨r,hw.trans h1,h2,h3,h4,h5,h6,h7.mono he⟩
structure Mrl (B : Nat → Prop) (w0 w : World) (df : List Deferred) (ι : Io) (st : MSt) (a : Act) : Prop where
 tm : MRels ι st.tm a.tmps.toList
 df : a.defers = df
 obj : ∀ id o,get st.h id = some o → ∃ p,ι id = some p ∧ ORel w ι p o ∧ ¬ B p.g
 inj : ∀ id id' o o' p p',get st.h id = some o → get st.h id' = some o' → ι id = some p → ι id' = some p' → p.g = p'.g → id = id'
 lt : ∀ id p,ι id = some p → p.g < w.heap.size
 nx : ∀ id p,ι id = some p → id < st.nx
 kept : Kept B w0 w
 ble : ∀ b,B b → b < w.heap.size
 glb : Glb B w0
end Go.Mi


namespace Go.Mi
open Go.RowKit
open Go.Ev (AV Sh Summ Env Ex nilB VRel VRels Kept Glb isAggT placeOf partsKnown fieldOf evBin shOf depth roomB lenB inb slb decA minInt maxInt)
section mem
variable {P : Program} {B : Nat → Prop} {w0 w : World} {df : List Deferred} {ι : Io} {st : MSt} {a : Act}
def upI (ι : Io) (id : Nat) (p : Pl) : Io:=fun i=>if i = id then some p else ι i
theorem upI_same (ι : Io) (id : Nat) (p : Pl) : upI ι id p id = some p:=by simp [upI]
theorem upI_other (ι : Io) {id i : Nat} (p : Pl) (h : i ≠ id) : upI ι id p i = ι i:=by simp [upI,h]
theorem upI_ext {id : Nat} (p : Pl) (h : ι id = none) : Ext ι (upI ι id p):=fun i q hq=>by
 have : i ≠ id:=fun e=>by rw [e,h] at hq;cases hq
 rw [upI_other _ _ this];exact hq
theorem Mrl.put (h : Mrl B w0 w df ι st a) {id : Nat} {p : Pl} {o : LObj} {w' : World} (hid : ι id = none) (hlt : id < st.nx) (hk : Kept B w w')
  (hlive : ∀ i x q,get st.h i = some x → ι i = some q → w'.heap[q.g]? = w.heap[q.g]? ∧ q.g ≠ p.g) (hp : ¬ B p.g) (hp2 : p.g < w'.heap.size) (ho : ORel w' (upI ι id p) p o) :
  Mrl B w0 w' df (upI ι id p) ⟨st.tm,set1 st.h (id,some o),st.nx⟩ a:=by
 have he:=upI_ext p hid
 have hne : ∀ {i q},ι i = some q → i ≠ id:=fun {i q} hq e=>by rw [e,hid] at hq;cases hq
 have hold : ∀ {i x},get (set1 st.h (id,some o)) i = some x → i ≠ id → get st.h i = some x:=fun {i x} hx hi=>by rw [get_set1,if_neg hi] at hx;exact hx
 refine ⟨h.tm.mono he,h.df,fun i x hx=>?_,fun i i' x x' q q' hx hx' hq hq' hg=>?_,fun i q hq=>?_,fun i q hq=>?_,h.kept.trans hk,fun b hb=>Nat.lt_of_lt_of_le (h.ble b hb) hk.size,h.glb⟩
 ·by_cases e : i = id
  ·subst e
   rw [get_set1,if_pos rfl] at hx
   cases hx
   exact ⟨p,upI_same _ _ _,ho,hp⟩
  ·obtain ⟨q,hq,hx',hg⟩:=h.obj i x (hold hx e)
   exact ⟨q,by rw [upI_other _ _ e];exact hq,hx'.keep he (hlive i x q (hold hx e) hq).1,hg⟩
 ·by_cases e : i = id <;> by_cases e' : i' = id
  ·rw [e,e']
  ·subst e
   rw [upI_same] at hq;cases hq
   rw [upI_other _ _ e'] at hq'
   exact absurd hg.symm (hlive i' x' q' (hold hx' e') hq').2
  ·subst e'
   rw [upI_same] at hq';cases hq'
   rw [upI_other _ _ e] at hq
   exact absurd hg (hlive i x q (hold hx e) hq).2
  ·rw [upI_other _ _ e] at hq;rw [upI_other _ _ e'] at hq'
   exact h.inj i i' x x' q q' (hold hx e) (hold hx' e') hq hq' hg
 ·by_cases e : i = id
  ·subst e;rw [upI_same] at hq;cases hq;exact hp2
  ·rw [upI_other _ _ e] at hq;exact Nat.lt_of_lt_of_le (h.lt i q hq) hk.size
 ·by_cases e : i = id
  ·subst e;exact hlt
  ·rw [upI_other _ _ e] at hq;exact h.nx i q hq
theorem Mrl.new (h : Mrl B w0 w df ι st a) {id : Nat} {p : Pl} {o : LObj} {w' : World} (hid : ι id = none) (hlt : id < st.nx) (hb : Below w.heap.size w w') (hp : w.heap.size ≤ p.g) (hp2 : p.g < w'.heap.size) (ho : ORel w' (upI ι id p) p o) :
  Mrl B w0 w' df (upI ι id p) ⟨st.tm,set1 st.h (id,some o),st.nx⟩ a :=
 h.put hid hlt (Kept.of_below hb h.ble) (fun i x q _ hq=>⟨hb.block _ (h.lt i q hq),fun e=>by have:=h.lt i q hq;omega⟩) (fun hB=>by have:=h.ble _ hB;omega) hp2 ho
theorem Mrl.mod (h : Mrl B w0 w df ι st a) {id : Nat} {p : Pl} {o o' : LObj} {w' : World} (hg : get st.h id = some o) (hp : ι id = some p) (hw : w.grownBy w' (some p.g)) (ho : ORel w' ι p o') :
  Mrl B w0 w' df ι ⟨st.tm,set1 st.h (id,some o'),st.nx⟩ a:=by
 obtain ⟨p',hp',_,hp0⟩:=h.obj id o hg
 rw [hp] at hp'
 cases hp'
 have hold : ∀ {i x},get (set1 st.h (id,some o')) i = some x → i ≠ id → get st.h i = some x:=fun {i x} hx hi=>by rw [get_set1,if_neg hi] at hx;exact hx
 have hlive : ∀ {i x},get (set1 st.h (id,some o')) i = some x → ∃ x',get st.h i = some x':=fun {i x} hx=>by
  by_cases e : i = id
  ·rw [e];exact ⟨o,hg⟩
  ·exact ⟨x,hold hx e⟩
 refine ⟨h.tm,h.df,fun i x hx=>?_,fun i i' x x' q q' hx hx' hq hq' hgg=>?_,fun i q hq=>Nat.lt_of_lt_of_le (h.lt i q hq) hw.size,h.nx,h.kept.trans (Kept.of_grown hw h.ble fun k hk=>by cases hk;exact hp0),fun b hb=>Nat.lt_of_lt_of_le (h.ble b hb) hw.size,h.glb⟩
 ·by_cases e : i = id
  ·subst e
   rw [get_set1,if_pos rfl] at hx
   cases hx
   exact ⟨p,hp,ho,hp0⟩
  ·obtain ⟨q,hq,hx',hg'⟩:=h.obj i x (hold hx e)
   refine ⟨q,hq,hx'.keep (Ext.refl _) (hw.block _ (h.lt i q hq) fun e2=>e ?_),hg'⟩
   exact h.inj i id x o q p (hold hx e) hg hq hp (by simpa using e2)
 ·obtain ⟨y,hy⟩:=hlive hx
  obtain ⟨y',hy'⟩:=hlive hx'
  exact h.inj i i' y y' q q' hy hy' hq hq' hgg
theorem Mrl.kill (h : Mrl B w0 w df ι st a) (id : Nat) : Mrl B w0 w df ι ⟨st.tm,set1 st.h (id,none),st.nx⟩ a:=by
 have hold : ∀ {i x},get (set1 st.h (id,none)) i = some x → get st.h i = some x:=fun {i x} hx=>by
  rw [get_set1] at hx
  split at hx
  ·cases hx
  ·exact hx
 exact ⟨h.tm,h.df,fun i x hx=>h.obj i x (hold hx),fun i i' x x' q q' hx hx'=>h.inj i i' x x' q q' (hold hx) (hold hx'),h.lt,h.nx,h.kept,h.ble,h.glb⟩
theorem get_killed {h : List (Nat × LObj)} {id i : Nat} {x : LObj} (hx : get (set1 h (id,none)) i = some x) : i ≠ id ∧ get h i = some x:=by
 rw [get_set1] at hx
 split at hx
 ·cases hx
 ·exact ⟨by assumption,hx⟩
theorem Mrl.cells (h : Mrl B w0 w df ι st a) {id : Nat} {frz : Bool} {cs : List MV} (hg : get st.h id = some (.cells frz cs)) {p : Pl} (hp : ι id = some p) :
  ∃ (arr : List Value) (t : TypeId) (fz : Nat × Nat),w.heap[p.g]? = some (.cells arr.toArray t fz) ∧ arr.length = p.sz ∧ (frz = false → fz = (0,0) ∨ fz = (arr.length,arr.length + 1)) ∧ p.sh + cs.length ≤ p.sz ∧
   (∀ u ∈ arr,u.oneCell' = true) ∧ MRels ι cs ((arr.drop p.sh).take cs.length):=by
 obtain ⟨p',hp',ho,_⟩:=h.obj id _ hg
 rw [hp] at hp'
 cases hp'
 exact ho
theorem cell_lit {w : World} {g : Nat} {arr : List Value} {t : TypeId} {fz : Nat × Nat} (h : w.heap[g]? = some (.cells arr.toArray t fz)) (j : Nat) : w.cell? ⟨g,j,none⟩ = arr[j]?:=by simp [World.cell?,h]
theorem part_cells {w : World} {g : Nat} {arr : List Value} {t : TypeId} {fz : Nat × Nat} (h : w.heap[g]? = some (.cells arr.toArray t fz)) (o n : Nat) (j : Nat) (u : Value) (hu : ((arr.drop o).take n)[j]? = some u) : w.cell? ((⟨g,o,none⟩ : Addr).add j) = some u:=by
 rw [Go.Ev.add_lit',cell_lit h]
 rw [List.getElem?_take] at hu
 split at hu
 ·simpa using hu
 ·cases hu
theorem take_drop_take {α : Type} (l : List α) (s n o m : Nat) (h : o + m ≤ n) : (((l.drop s).take n).drop o).take m = (l.drop (s + o)).take m:=by
 rw [List.drop_take,List.take_take,List.drop_drop,Nat.min_eq_left (by omega)]
def Runs (P : Program) (o : Oper) (a : Act) (w : World) (u : Value) (w' : World) : Prop:=(execOp a.eval o).run P w = .ok (.value u) w' ∨ ((execOp a.eval o).run P w = .ok .skip w' ∧ u = undef)
def Done (P : Program) (B : Nat → Prop) (w0 w : World) (df : List Deferred) (ι : Io) (st : MSt) (a : Act) (o : Oper) (nid : Nat) (e : MEff) : Prop :=
 ∃ u w' ι',Runs P o a w u w' ∧ Ext ι ι' ∧ (∀ i,i ≠ nid → ι' i = ι i) ∧ MRel ι' e.v u ∧ Mrl B w0 w' df ι' ⟨st.tm,e.sets.foldl set1 st.h,st.nx⟩ a
end mem
section ops
variable {ρ : Type} {P : Program} {B : Nat → Prop} {w0 w : World} {df : List Deferred} {ι : Io} {st : MSt} {a : Act} {o : Oper} {nid : Nat} {y : MEff → Option ρ} {r : ρ}
theorem calm (hR : Mrl B w0 w df ι st a) {v : MV} {u : Value} {rs : List Nat} (hv : MRel ι v u) (hrun : (execOp a.eval o).run P w = .ok (.value u) w) : Done P B w0 w df ι st a o nid { v:=v,reads:=rs,sets:=[] } :=
 ⟨u,w,ι,.inl hrun,Ext.refl _,fun _ _=>rfl,hv,hR⟩
theorem op_move (hR : Mrl B w0 w df ι st a) {x : Operand} (ho : o.op = .move x ∨ o.op = .assign x) : Done P B w0 w df ι st a o nid { v:=mval st.tm x } :=
 calm hR (mval_rel hR.tm x) (by rcases ho with ho | ho <;> simp [execOp,ho])
theorem op_pick (hR : Mrl B w0 w df ι st a) {c x z : Operand} {t : Bool} (ho : o.op = .pick c x z) (hc : mval st.tm c = .bool t) : Done P B w0 w df ι st a o nid { v:=bif t then mval st.tm x else mval st.tm z }:=by
 have hcv:=mval_rel hR.tm c
 rw [hc] at hcv
 have hcv':=hcv.bool_inv
 cases t with
 | true=>exact calm hR (mval_rel hR.tm x) (by simp [execOp,ho,hcv',asBool])
 | false=>exact calm hR (mval_rel hR.tm z) (by simp [execOp,ho,hcv',asBool])
theorem zeroM_spec {t : TypeId} {cs : List MV} (h : zeroM P t = some cs) : ∃ i v,P.info? t = some i ∧ i.zero = some v ∧ (ofConst v).laid = true ∧ cs = (ofConst v).cells:=by
 unfold zeroM at h
 split at h
 ·rename_i i hi
  split at h
  ·rename_i v hv
   split at h
   ·rename_i hl;cases h;exact ⟨i,v,hi,hv,hl,rfl⟩
   ·cases h
  ·cases h
 ·cases h
theorem zeroM_rel {ι : Io} {t : TypeId} {cs : List MV} (h : zeroM P t = some cs) : ∃ i v us,P.info? t = some i ∧ i.zero = some v ∧ v.cells = us.toArray ∧ MRels ι cs us ∧ ∀ u ∈ us,u.oneCell' = true:=by
 obtain ⟨i,v,hi,hv,hl,rfl⟩:=zeroM_spec h
 obtain ⟨us,h1,h2,h3⟩:=(ofConst_rel (ι:=ι) v).laid hl
 exact ⟨i,v,us,hi,hv,h1,h2,h3⟩
theorem orel_new {w' : World} {ι' : Io} {g : Nat} {cs : List MV} {us : List Value} {t : TypeId} (hg : w'.heap[g]? = some (.cells us.toArray t (0,0))) (h : MRels ι' cs us) (h1 : ∀ u ∈ us,u.oneCell' = true) : ORel w' ι' ⟨g,0,us.length⟩ (.cells false cs) :=
 ⟨us,t,_,hg,rfl,fun _=>.inl rfl,by simp [h.1],h1,by simpa [← h.1] using h⟩
theorem op_newBox (hR : Mrl B w0 w df ι st a) (hn : ι nid = none) (hlt : nid < st.nx) {cs : List MV} {us : List Value} {t : TypeId} (hv : MRels ι cs us) (h1 : ∀ u ∈ us,u.oneCell' = true)
  (hrun : (execOp a.eval o).run P w = .ok (.value (.pointer (some ⟨w.heap.size,0,none⟩))) (w.alloc (.cells us.toArray t))) : Done P B w0 w df ι st a o nid { v:=.ptr nid 0,sets:=[(nid,some (.cells false cs))] }:=by
 have hb:=Go.Ev.below_alloc w (.cells us.toArray t)
 refine ⟨_,_,upI ι nid ⟨w.heap.size,0,us.length⟩,.inl hrun,upI_ext _ hn,fun i hi=>upI_other _ _ hi,.ptr nid 0 _ (upI_same _ _ _),?_⟩
 refine hR.new hn hlt hb (Nat.le_refl _) (by simp) (orel_new (t:=t) ?_ (hv.mono (upI_ext _ hn)) h1)
 exact World.alloc_heap_new w _
theorem op_alloc (hR : Mrl B w0 w df ι st a) (hn : ι nid = none) (hlt : nid < st.nx) {t : TypeId} (ho : o.op = .alloc t) {cs : List MV} (hz : zeroM P t = some cs) : Done P B w0 w df ι st a o nid { v:=.ptr nid 0,sets:=[(nid,some (.cells false cs))] }:=by
 obtain ⟨i,v,us,hi,hv,huc,hus,h1⟩:=zeroM_rel (ι:=ι) hz
 exact op_newBox hR hn hlt (t:=t) hus h1 (by simp [execOp,ho,Instr.alloc,zeroValue,typeInfo,hi,hv,newVar,newRow,huc])
theorem op_box (hR : Mrl B w0 w df ι st a) (hn : ι nid = none) (hlt : nid < st.nx) {t : TypeId} {x : Operand} (ho : o.op = .box t x) (hl : (mval st.tm x).laid = true) : Done P B w0 w df ι st a o nid { v:=.ptr nid 0,sets:=[(nid,some (.cells false (mval st.tm x).cells))] }:=by
 obtain ⟨us,huc,hus,h1⟩:=(mval_rel hR.tm x).laid hl
 exact op_newBox hR hn hlt (t:=t) hus h1 (by simp [execOp,ho,Instr.box,newVar,newRow,huc])
theorem op_extract (hR : Mrl B w0 w df ι st a) {x : Operand} {i : Nat} {vs : List MV} {v : MV} (ho : o.op = .extract x i) (hx : mval st.tm x = .tup vs) (hv : vs[i]? = some v) : Done P B w0 w df ι st a o nid { v:=v }:=by
 have h:=mval_rel hR.tm x
 rw [hx] at h
 obtain ⟨us,hu,hus⟩:=h.tup_inv
 obtain ⟨u,hiu,hr⟩:=hus.at_ hv
 exact calm hR hr (by simp [execOp,ho,hu,Instr.extract,hiu])
theorem op_nilCheck (hR : Mrl B w0 w df ι st a) {x : Operand} (ho : o.op = .nilCheck x) (hx : (∃ id off,mval st.tm x = .ptr id off) ∨ (∃ f cs,mval st.tm x = .fn f cs) ∨ (∃ id,mval st.tm x = .yld id) ∨ ∃ f cs,mval st.tm x = .bnd f cs) : Done P B w0 w df ι st a o nid { v:=mval st.tm x }:=by
 have h:=mval_rel hR.tm x
 refine calm hR h ?_
 generalize he : a.eval x = u at h
 rcases hx with ⟨id,off,e⟩ | ⟨f,cs,e⟩ | ⟨id,e⟩ | ⟨f,cs,e⟩ <;> rw [e] at h <;> cases h <;> simp [execOp,ho,he]
theorem op_makeFunc (hR : Mrl B w0 w df ι st a) {f : Nat} {first captured : Array Operand} (ho : o.op = .makeFunc (.func f) first captured) (hf : first.size = 0) : Done P B w0 w df ι st a o nid { v:=.fn f (mvals st.tm captured.toList) }:=by
 have h:=mvals_rel hR.tm captured.toList
 have h0 : first = #[]:=Array.size_eq_zero_iff.1 hf
 refine calm (u:=.func (.func f) #[] (captured.map a.eval)) hR ?_ (by simp [execOp,ho,h0,Instr.makeFunc])
 have:=MRel.fn (ι:=ι) f _ _ h.1 h.2
 have e : (captured.toList.map a.eval).toArray = captured.map a.eval:=by apply Array.ext';simp
 rwa [e] at this
theorem op_makeBound (hR : Mrl B w0 w df ι st a) {f : Nat} {first captured : Array Operand} (ho : o.op = .makeFunc (.func f) first captured) (hf : captured.size = 0) : Done P B w0 w df ι st a o nid { v:=.bnd f (mvals st.tm first.toList) }:=by
 have h:=mvals_rel hR.tm first.toList
 have h0 : captured = #[]:=Array.size_eq_zero_iff.1 hf
 refine calm (u:=.func (.func f) (first.map a.eval) #[]) hR ?_ (by simp [execOp,ho,h0,Instr.makeFunc])
 have:=MRel.bnd (ι:=ι) f _ _ h.1 h.2
 have e : (first.toList.map a.eval).toArray = first.map a.eval:=by apply Array.ext';simp
 rwa [e] at this
theorem ptr_inv {id off : Nat} {u : Value} (h : MRel ι (.ptr id off) u) : ∃ p,ι id = some p ∧ u = .pointer (some ⟨p.g,p.sh + off,none⟩):=by
 cases h with
 | ptr _ _ p hp=>exact ⟨p,hp,rfl⟩
theorem op_fieldAddr (hR : Mrl B w0 w df ι st a) {t : TypeId} {x : Operand} {f : Nat} {fl : Field} (ho : o.op = .fieldAddr t x f) (hfl : fieldOf P t f = some fl) (hz : P.cellsOf fl.type ≠ 0) {id off : Nat} (hx : mval st.tm x = .ptr id off) : Done P B w0 w df ι st a o nid { v:=.ptr id (off + fl.offset) }:=by
 obtain ⟨fs,hfs,hff⟩:=Go.Ev.fieldOf_spec hfl
 obtain ⟨i,hi,hs⟩:=Go.Ev.cellsOf_info hz
 have h:=mval_rel hR.tm x
 rw [hx] at h
 obtain ⟨p,hp,hu⟩:=ptr_inv h
 have hs0 : i.size ≠ 0:=by rw [hs];exact hz
 refine calm hR (.ptr id (off + fl.offset) p hp) ?_
 simp [execOp,ho,Instr.fieldAt,run_underlying hfs,hff,hu,Instr.sureAddr,fieldPlace,sizeOf,typeInfo,hi,hs0,Go.Ev.add_lit',Nat.add_assoc]
theorem op_indexAddr_slc (hR : Mrl B w0 w df ι st a) {t e : TypeId} {x i : Operand} {id off len cap wd : Nat} {k : IntKind} {n : Int} (ho : o.op = .indexAddr t x i) (ht : P.underlying t = some (.slice e)) (hx : mval st.tm x = .slc id off len cap wd) (hi : mval st.tm i = .int k n)
  (hwd : wd = P.cellsOf e) (hin : (P.info? e).isSome = true) (hb : inb n len = true) : Done P B w0 w df ι st a o nid { v:=.ptr id (off + n.toNat * wd) }:=by
 obtain ⟨h0,h1,h2⟩:=Go.Ev.inb_spec hb
 have h:=mval_rel hR.tm x
 rw [hx] at h
 have hiv:=mval_rel hR.tm i
 rw [hi] at hiv
 obtain ⟨ii,hii⟩:=Option.isSome_iff_exists.1 hin
 have hsz : ii.size = wd:=by rw [hwd];unfold Program.cellsOf;simp [hii]
 generalize he : a.eval x = u at h
 cases h with
 | slc _ _ _ _ _ p o' cap' hp hl hc hm ho' hs hz hw =>
  have hoo:=ho' (by omega)
  refine calm hR (.ptr id (off + n.toNat * wd) p hp) ?_
  simp [execOp,ho,Instr.indexAt,he,hiv.int_inv,asIntOf,run_underlying ht,h0,h1,sizeOf,typeInfo,hii,hsz,Go.Ev.add_lit',hoo,Nat.add_assoc]
theorem op_indexAddr_ptr (hR : Mrl B w0 w df ι st a) {t e : TypeId} {x i : Operand} {id off len : Nat} {k : IntKind} {n : Int} (ho : o.op = .indexAddr t x i) (ht : P.underlying t = some (.array len e)) (hx : mval st.tm x = .ptr id off) (hi : mval st.tm i = .int k n)
  (hin : (P.info? e).isSome = true) (hb : inb n len = true) : Done P B w0 w df ι st a o nid { v:=.ptr id (off + n.toNat * P.cellsOf e) }:=by
 obtain ⟨h0,h1,h2⟩:=Go.Ev.inb_spec hb
 have h:=mval_rel hR.tm x
 rw [hx] at h
 have hiv:=mval_rel hR.tm i
 rw [hi] at hiv
 obtain ⟨ii,hii⟩:=Option.isSome_iff_exists.1 hin
 have hsz : ii.size = P.cellsOf e:=by unfold Program.cellsOf;simp [hii]
 obtain ⟨p,hp,hu⟩:=ptr_inv h
 refine calm hR (.ptr id (off + n.toNat * P.cellsOf e) p hp) ?_
 simp [execOp,ho,Instr.indexAt,hu,hiv.int_inv,asIntOf,run_underlying ht,h0,h1,sizeOf,typeInfo,hii,hsz,Go.Ev.add_lit',Instr.sureAddr,Nat.add_assoc]
theorem loadM_sound {t : TypeId} {cs : List MV} {z : MV → Option ρ} (h : loadM P t cs z = some r) {xs : List Value} (hv : MRels ι cs xs) (h1 : ∀ u ∈ xs,u.oneCell' = true) :
  ∃ v u,z v = some r ∧ MRel ι v u ∧ (isAggT P t = true ∧ P.cellsOf t ≤ xs.length ∧ u = .agg (xs.take (P.cellsOf t)).toArray ∨ isAggT P t = false ∧ (P.underlying t).isSome = true ∧ ∃ xs',xs = u :: xs'):=by
 unfold loadM at h
 split at h
 ·rename_i ha
  split at h
  ·rename_i hle
   have hle':=Nat.le_of_ble_eq_true hle
   have ht:=hv.take (P.cellsOf t)
   exact ⟨_,_,h,.agg _ _ ht.1 (fun u hu=>h1 u (List.mem_of_mem_take hu)) ht.2,.inl ⟨ha,by rw [hv.1];exact hle',rfl⟩⟩
  ·cases h
 ·rename_i ha
  split at h
  ·rename_i hs
   split at h
   ·rename_i c cs'
    obtain ⟨u,us,rfl,hu,_⟩:=hv.inv
    exact ⟨c,u,h,hu,.inr ⟨by simpa using ha,hs,us,rfl⟩⟩
   ·cases h
  ·cases h
theorem run_loadM {t : TypeId} {xs : List Value} {u : Value} (h : isAggT P t = true ∧ P.cellsOf t ≤ xs.length ∧ u = .agg (xs.take (P.cellsOf t)).toArray ∨ isAggT P t = false ∧ (P.underlying t).isSome = true ∧ ∃ xs',xs = u :: xs') {ad : Addr}
  (hx : ∀ (j : Nat) (u : Value),xs[j]? = some u → w.cell? (ad.add j) = some u) : (loadVar t ad).run P w = .ok u w:=by
 rcases h with ⟨ha,hle,rfl⟩ | ⟨ha,hs,xs',rfl⟩
 ·obtain ⟨d,hd⟩:=Go.Ev.aggT_some ha
  obtain ⟨i,hi,hsz⟩:=Go.Ev.underlying_info hd
  have hl:=Go.Ev.run_loadCells_take (P:=P) w ad xs (P.cellsOf t) hle hx
  simp only [loadVar,Sem.run_bind,Go.Ev.run_isAgg hd,ha,Result.andThen_ok,if_true,sizeOf,typeInfo,run_program,hi,Sem.run_pure,hsz,hl]
 ·obtain ⟨d,hd⟩:=Option.isSome_iff_exists.1 hs
  have h0:=hx 0 u rfl
  have h0' : w.cell? ad = some u:=by simpa [Addr.add] using h0
  simp only [loadVar,Sem.run_bind,Go.Ev.run_isAgg hd,ha,Result.andThen_ok]
  simp [run_load,h0']
theorem op_load (hR : Mrl B w0 w df ι st a) {t : TypeId} {x : Operand} (ho : o.op = .load t x) {id off : Nat} (hx : mval st.tm x = .ptr id off) {cs : List MV} (hc : cellsAt st.h id = some cs) (h : loadM P t (cs.drop off) (fun v=>y { v,reads:=[id] }) = some r) :
  ∃ e,y e = some r ∧ Done P B w0 w df ι st a o nid e:=by
 have hv:=mval_rel hR.tm x
 rw [hx] at hv
 obtain ⟨p,hp,hu⟩:=ptr_inv hv
 have hg : ∃ frz,get st.h id = some (.cells frz cs):=by
  unfold cellsAt at hc
  split at hc
  ·rename_i f c hg;cases hc;exact ⟨f,hg⟩
  ·cases hc
 obtain ⟨frz,hg⟩:=hg
 obtain ⟨arr,tt,fz,hh,hsz,hfz,hle,h1,hvs⟩:=hR.cells hg hp
 obtain ⟨v,u,hy,hvu,hor⟩:=loadM_sound h (hvs.drop off) (fun u hu=>h1 u (List.mem_of_mem_drop (List.mem_of_mem_take (List.mem_of_mem_drop hu))))
 refine ⟨_,hy,calm hR hvu ?_⟩
 have hrun:=run_loadM (P:=P) (w:=w) hor (ad:=⟨p.g,p.sh + off,none⟩) fun j u hj=>by
  rw [List.drop_take,List.drop_drop] at hj
  exact part_cells hh _ _ j u hj
 simp [execOp,ho,hu,Instr.loadAt,Instr.sureAddr,hrun]
end ops
end Go.Mi


namespace Go.Mi
open Go.RowKit
open Go.Ev (AV Sh Summ Env Ex nilB VRel VRels Kept Glb isAggT placeOf partsKnown fieldOf evBin shOf depth roomB lenB inb slb decA minInt maxInt)
section ops
variable {ρ : Type} {P : Program} {B : Nat → Prop} {w0 w : World} {df : List Deferred} {ι : Io} {st : MSt} {a : Act} {o : Oper} {nid : Nat} {y : MEff → Option ρ} {r : ρ}
theorem MRels.splice {ι : Io} {cs ds : List MV} {vs us : List Value} (h : MRels ι cs vs) (h' : MRels ι ds us) (off : Nat) : MRels ι (splice cs off ds) (vs.take off ++ us ++ vs.drop (off + us.length)):=by
 unfold Go.Mi.splice
 rw [h'.1]
 exact ((h.take off).append h').append (h.drop _)
theorem splice_one {vs us : List Value} {off : Nat} (h1 : ∀ u ∈ vs,u.oneCell' = true) (h2 : ∀ u ∈ us,u.oneCell' = true) : ∀ x ∈ vs.take off ++ us ++ vs.drop (off + us.length),x.oneCell' = true:=by
 intro x hx
 simp only [List.mem_append] at hx
 rcases hx with (hx | hx) | hx
 ·exact h1 x (List.mem_of_mem_take hx)
 ·exact h2 x hx
 ·exact h1 x (List.mem_of_mem_drop hx)
theorem fill_sound {ι : Io} {place place' : Nat → Option (Nat × Nat)} (hpl : ∀ i p,place i = some p → place' i = some p) :
  ∀ (parts : List (Nat × MV)) (parts' : List (Nat × Value)) (cs cs' : List MV) (vs : List Value),fillM place cs parts = some cs' → parts.map (·.1) = parts'.map (·.1) → MRels ι (parts.map (·.2)) (parts'.map (·.2)) →
   MRels ι cs vs → (∀ u ∈ vs,u.oneCell' = true) → ∃ vs',Instr.fill place' vs.toArray parts' = some vs'.toArray ∧ MRels ι cs' vs' ∧ ∀ u ∈ vs',u.oneCell' = true
 | [],[],cs,cs',vs,h,_,_,hv,h1=>by simp [fillM] at h;subst h;exact ⟨vs,rfl,hv,h1⟩
 | [],_ :: _,_,_,_,_,hm,_,_,_=>by simp at hm
 | _ :: _,[],_,_,_,_,hm,_,_,_=>by simp at hm
 | (i,v) :: parts,(i',u) :: parts',cs,cs',vs,h,hm,hp,hv,h1=>by
  simp only [List.map_cons,List.cons.injEq] at hm
  obtain ⟨hii,hm'⟩:=hm
  subst hii
  simp only [List.map_cons] at hp
  obtain ⟨u',us',he,hvu,hps⟩:=hp.inv
  simp only [List.cons.injEq] at he
  obtain ⟨rfl,rfl⟩:=he
  simp only [fillM] at h
  cases hpi : place i with
  | none=>simp [hpi] at h
  | some p =>
   simp only [hpi] at h
   split at h
   ·rename_i hc
    simp only [Bool.and_eq_true,beq_iff_eq] at hc
    obtain ⟨hlaid,hlen,hle⟩:=hc
    have hle' : p.1 + v.cells.length ≤ cs.length:=Nat.le_of_ble_eq_true hle
    obtain ⟨us,huc,hus,hu1⟩:=hvu.laid hlaid
    have hul : us.length = p.2:=by rw [hus.1];exact hlen
    have hsp:=hv.splice hus p.1
    obtain ⟨vs',hf,hv',h1''⟩:=fill_sound hpl parts parts' _ cs' _ h hm' hps hsp (splice_one h1 hu1)
    refine ⟨vs',?_,hv',h1''⟩
    have hfold:=Go.Ev.foldl_set p.1 us 0 vs.toArray (by simp;rw [hv.1,hus.1];exact hle')
    simp only [Nat.add_zero] at hfold
    obtain ⟨p1,p2⟩:=p
    simp only [Instr.fill,hpl i _ hpi,huc]
    have hsz : us.toArray.size = p2:=by simpa using hul
    have hgt : ¬ (p1 + us.toArray.size > vs.toArray.size):=by simp;rw [hv.1,hus.1];exact hle'
    simp only [hsz,ne_eq,not_true_eq_false,decide_false,Bool.false_or,decide_eq_true_eq]
    rw [hsz] at hgt
    rw [if_neg hgt]
    have hz : us.toArray.zipIdx.foldl (fun cs x=>match x with | (c,j)=>cs.setIfInBounds (p1 + j) c) vs.toArray = (vs.take p1 ++ us ++ vs.drop (p1 + us.length)).toArray:=by
     rw [← hfold,← Array.foldl_toList,Array.toList_zipIdx]
    rw [hz]
    exact hf
   ·cases h
theorem parts_rel (hR : Mrl B w0 w df ι st a) (parts : Array (Nat × Operand)) : MRels ι ((parts.toList.map fun p=>(p.1,mval st.tm p.2)).map (·.2)) ((parts.toList.map fun p=>(p.1,a.eval p.2)).map (·.2)):=by
 refine ⟨by simp,fun j c u hc hu=>?_⟩
 simp only [List.map_map,List.getElem?_map] at hc hu
 cases hj : parts.toList[j]? with
 | none=>simp [hj] at hc
 | some p=>simp [hj] at hc hu;subst hc;subst hu;exact mval_rel hR.tm _
theorem parts_map (a : Act) (parts : Array (Nat × Operand)) : (parts.map fun p=>(p.1,a.eval p.2)) = (parts.toList.map fun p=>(p.1,a.eval p.2)).toArray:=by apply Array.ext';simp
theorem op_build (hR : Mrl B w0 w df ι st a) {t : TypeId} {parts : Array (Nat × Operand)} {cs cs' : List MV} (ho : o.op = .build t parts) (hz : zeroM P t = some cs) (hk : partsKnown P t = true)
  (hf : fillM (placeOf P t) cs (parts.toList.map fun p=>(p.1,mval st.tm p.2)) = some cs') : Done P B w0 w df ι st a o nid { v:=.agg cs' }:=by
 obtain ⟨i,v,us,hi,hv,hc,hvs,h1⟩:=zeroM_rel (ι:=ι) hz
 have hparts:=parts_rel hR parts
 have hmap:=parts_map a parts
 unfold partsKnown at hk
 split at hk
 ·rename_i fs hfs
  obtain ⟨vs',hfill,hvr,h1'⟩:=fill_sound (place:=placeOf P t) (place':=fun x=>Option.map (fun f=>(f.offset,P.cellsOf f.type)) fs[x]?) (fun i p hp=>by
   simp only [placeOf,hfs] at hp
   exact hp) _ _ _ cs' us hf (by simp) hparts hvs h1
  refine calm hR (.agg _ _ hvr.1 h1' hvr.2) ?_
  have hpl:=run_places (P:=P) w fs.toList _ (Go.Ev.places_some fs.toList hk)
  simp only [execOp,ho,Instr.build,zeroValue,typeInfo,Sem.run_bind,run_program,Result.andThen_ok,hi,Sem.run_pure,hv,run_underlying hfs]
  simp only [Array.mapM_eq_mapM_toList,bind_pure_comp,hmap]
  simp [hpl,hc,hfill]
 ·rename_i n e he
  obtain ⟨ii,hii⟩:=Option.isSome_iff_exists.1 hk
  obtain ⟨vs',hfill,hvr,h1'⟩:=fill_sound (place:=placeOf P t) (place':=fun x=>some (x * ii.size,ii.size)) (fun i p hp=>by
   simp only [placeOf,he,Program.cellsOf,hii] at hp
   simpa using hp) _ _ _ cs' us hf (by simp) hparts hvs h1
  refine calm hR (.agg _ _ hvr.1 h1' hvr.2) ?_
  simp only [execOp,ho,Instr.build,zeroValue,sizeOf,typeInfo,Sem.run_bind,run_program,Result.andThen_ok,hi,Sem.run_pure,hv,run_underlying he,hii,hmap]
  simp [hc,hfill]
 ·cases hk
theorem elemM_spec {e : TypeId} (h : elemM P e = true) : ∃ i z zc,P.info? e = some i ∧ i.zero = some z ∧ 0 < i.size ∧ z.cells.size = i.size ∧ i.bytes = P.bytesOf e ∧ i.size = P.cellsOf e ∧ zeroM P e = some zc:=by
 unfold elemM at h
 cases hi : P.info? e with
 | none=>simp [hi] at h
 | some i =>
  simp only [hi,Bool.and_eq_true] at h
  obtain ⟨h1,h2,h3⟩:=h
  cases hz : i.zero with
  | none=>simp [hz] at h2
  | some z =>
   simp only [hz,beq_iff_eq] at h2
   obtain ⟨zc,hzc⟩:=Option.isSome_iff_exists.1 h3
   exact ⟨i,z,zc,rfl,hz,Nat.blt_eq ▸ h1,h2,by simp [Program.bytesOf,hi],by simp [Program.cellsOf,hi],hzc⟩
theorem zerosM_rep {e : TypeId} {zc : List MV} (hz : zeroM P e = some zc) : ∀ n : Nat,zerosM P e n = some (List.replicate n zc).flatten
 | 0=>rfl
 | n + 1=>by simp [zerosM,hz,zerosM_rep hz n,List.replicate_succ]
theorem MRels.rep {ι : Io} {cs : List MV} {vs : List Value} (h : MRels ι cs vs) : ∀ len : Nat,MRels ι (List.replicate len cs).flatten (List.replicate len vs).flatten
 | 0=>by simpa using MRels.nil
 | len + 1=>by
  rw [List.replicate_succ,List.replicate_succ,List.flatten_cons,List.flatten_cons]
  exact h.append (MRels.rep h len)
theorem zerosM_rel {e : TypeId} {i : TypeInfo} {zz : Value} {zc : List MV} (hi : P.info? e = some i) (hzz : i.zero = some zz) (hzs : zz.cells.size = i.size) (hpos : 0 < i.size) (hza : zeroM P e = some zc) (ι : Io) (k : Nat) {cs : List MV} (hc : zerosM P e k = some cs) :
  MRels ι cs (Builtin.zeroCells zz.cells k).toList ∧ (∀ u ∈ (Builtin.zeroCells zz.cells k).toList,u.oneCell' = true) ∧ cs.length = k * i.size:=by
 obtain ⟨i',v,zs,hi',hv,hcz,hzvs,hz1⟩:=zeroM_rel (ι:=ι) hza
 rw [hi] at hi'
 cases hi'
 rw [hzz] at hv
 cases hv
 rw [zerosM_rep hza] at hc
 cases hc
 have hzl : zs.length = i.size:=by rw [← hzs,hcz];simp
 have hzl2 : (Builtin.zeroCells zz.cells k).toList = (List.replicate k zs).flatten:=by
  have hr:=Go.Ev.range_rep zs (default : Value) i.size hzl hpos k
  rw [← hr]
  unfold Builtin.zeroCells
  rw [hcz]
  simp only [List.size_toArray,hzl,Array.toList_map,Array.toList_range]
  apply List.map_congr_left
  intro j _
  have hlt : j % i.size < zs.length:=by rw [hzl];exact Nat.mod_lt _ hpos
  simp [List.getD,List.getElem?_eq_getElem hlt,getElem!_pos zs.toArray (j % i.size) (by simpa using hlt)]
 refine ⟨by rw [hzl2];exact hzvs.rep k,?_,?_⟩
 ·intro u hu
  rw [hzl2] at hu
  obtain ⟨l,hl,hul⟩:=List.mem_flatten.1 hu
  rw [(List.mem_replicate.1 hl).2] at hul
  exact hz1 u hul
 ·have : (List.replicate k zc).flatten.length = k * zc.length:=by simp
  rw [this,← hzvs.1,hzl]
theorem op_newArrC (hR : Mrl B w0 w df ι st a) (hn : ι nid = none) (hlt : nid < st.nx) {cs : List MV} {us : List Value} {t : TypeId} {fz : Nat × Nat} {w' : World} {n c0 cap wd : Nat} {rs : List Nat} (hb : Below w.heap.size w w') (hp2 : w.heap.size < w'.heap.size) (hg : w'.heap[w.heap.size]? = some (.cells us.toArray t fz))
  (hfz : fz = (0,0) ∨ fz = (us.length,us.length + 1)) (hv : MRels ι cs (us.take cs.length)) (hle : cs.length ≤ us.length) (h1 : ∀ u ∈ us,u.oneCell' = true) (hn0 : n ≤ c0) (hnc : c0 ≤ cap) (hm : cap ≤ maxLen) (hcw : cap * wd ≤ us.length) (hw : 0 < wd)
  (hrun : (execOp a.eval o).run P w = .ok (.value (.slice (some ⟨w.heap.size,0,none⟩) n cap)) w') : Done P B w0 w df ι st a o nid { v:=.slc nid 0 n c0 wd,reads:=rs,sets:=[(nid,some (.cells false cs))] }:=by
 refine ⟨_,_,upI ι nid ⟨w.heap.size,0,us.length⟩,.inl hrun,upI_ext _ hn,fun i hi=>upI_other _ _ hi,?_,?_⟩
 ·exact .slc nid 0 n c0 wd ⟨w.heap.size,0,us.length⟩ 0 cap (upI_same _ _ _) hn0 hnc hm (fun _=>rfl) (Nat.le_refl _) (by simpa using hcw) hw
 ·refine hR.new hn hlt hb (Nat.le_refl _) hp2 ⟨us,t,fz,hg,rfl,fun _=>hfz,by simpa using hle,h1,?_⟩
  simpa using hv.mono (upI_ext _ hn)
theorem op_newArr (hR : Mrl B w0 w df ι st a) (hn : ι nid = none) (hlt : nid < st.nx) {cs : List MV} {us : List Value} {t : TypeId} {fz : Nat × Nat} {w' : World} {n cap wd : Nat} {rs : List Nat} (hb : Below w.heap.size w w') (hp2 : w.heap.size < w'.heap.size) (hg : w'.heap[w.heap.size]? = some (.cells us.toArray t fz))
  (hfz : fz = (0,0) ∨ fz = (us.length,us.length + 1)) (hv : MRels ι cs (us.take cs.length)) (hle : cs.length ≤ us.length) (h1 : ∀ u ∈ us,u.oneCell' = true) (hnc : n ≤ cap) (hm : cap ≤ maxLen) (hcw : cap * wd ≤ us.length) (hw : 0 < wd)
  (hrun : (execOp a.eval o).run P w = .ok (.value (.slice (some ⟨w.heap.size,0,none⟩) n cap)) w') : Done P B w0 w df ι st a o nid { v:=.slc nid 0 n n wd,reads:=rs,sets:=[(nid,some (.cells false cs))] } :=
 op_newArrC hR hn hlt hb hp2 hg hfz hv hle h1 (Nat.le_refl n) hnc hm hcw hw hrun
theorem fill_len {place : Nat → Option (Nat × Nat)} : ∀ (parts : List (Nat × MV)) (cs cs' : List MV),fillM place cs parts = some cs' → cs'.length = cs.length
 | [],cs,cs',h=>by simp [fillM] at h;rw [h]
 | (i,v) :: parts,cs,cs',h=>by
  simp only [fillM] at h
  split at h
  ·cases h
  ·rename_i p hp
   split at h
   ·rename_i hc
    simp only [Bool.and_eq_true,beq_iff_eq] at hc
    have hle:=Nat.le_of_ble_eq_true hc.2.2
    rw [fill_len parts _ cs' h]
    simp [Go.Mi.splice];omega
   ·cases h
theorem op_buildSlice (hR : Mrl B w0 w df ι st a) (hn : ι nid = none) (hlt : nid < st.nx) {t e : TypeId} {len : Nat} {parts : Array (Nat × Operand)} {z cs : List MV} (ho : o.op = .buildSlice t len parts) (ht : P.underlying t = some (.slice e))
  (hel : elemM P e = true) (hlen : len ≤ 1000) (hce : P.cellsOf e ≤ 1000) (hz : zerosM P e len = some z) (hf : fillM (fun i=>some (i * P.cellsOf e,P.cellsOf e)) z (parts.toList.map fun p=>(p.1,mval st.tm p.2)) = some cs) :
  Done P B w0 w df ι st a o nid { v:=.slc nid 0 len len (P.cellsOf e),sets:=[(nid,some (.cells false cs))] }:=by
 obtain ⟨i,zz,zc,hi,hzz,hpos,hzs,hby,hsz,hzc⟩:=elemM_spec hel
 obtain ⟨hzr,hz1,hzl⟩:=zerosM_rel hi hzz hzs hpos hzc ι len hz
 obtain ⟨vs',hfill,hvr,h1'⟩:=fill_sound (place':=fun x=>some (x * i.size,i.size)) (fun j p hp=>by rw [hsz];exact hp) _ (parts.toList.map fun p=>(p.1,a.eval p.2)) _ cs _ hf (by simp) (parts_rel hR parts) hzr hz1
 have hcl : cs.length = len * i.size:=by rw [fill_len _ _ _ hf,hzl]
 have hmap:=parts_map a parts
 have hn24 : ¬ (len * i.size > 2 ^ 24):=by
  have : len * i.size ≤ 1000 * 1000:=Nat.mul_le_mul hlen (by rw [hsz];exact hce)
  omega
 have hb:=Go.Ev.below_alloc w (.cells vs'.toArray e)
 refine op_newArr (cap:=len) hR hn hlt hb (by simp) (World.alloc_heap_new w _) (.inl rfl) (by rw [← hvr.1,List.take_length];exact hvr) (by rw [hvr.1];exact Nat.le_refl _) h1' (Nat.le_refl _) (by simp only [maxLen];omega) (by rw [hvr.1,hcl,hsz];exact Nat.le_refl _) (by omega) ?_
 rw [Array.toArray_toList] at hfill
 by_cases h0 : len * i.size = 0
 ·have hl0 : len = 0:=by
   rcases Nat.mul_eq_zero.1 h0 with h | h
   ·exact h
   ·omega
  subst hl0
  have hr0 : Array.range 0 = #[]:=rfl
  have hz0 : Builtin.zeroCells zz.cells 0 = #[]:=by simp [Builtin.zeroCells,hr0]
  rw [hz0] at hfill
  have h24 : ¬ (0 > 2 ^ 24):=by decide
  simp only [execOp,ho,Instr.buildSlice,Sem.run_bind,run_underlying ht,Result.andThen_ok,sizeOf,typeInfo,run_program,hi,Sem.run_pure,h24,if_false,hmap,Nat.zero_mul,if_true,hr0,Array.map_empty,hfill,newRow,run_newObj]
  rfl
 ·have hzeq : (Array.range (len * i.size)).map (fun j=>zz.cells[j % zz.cells.size]!) = Builtin.zeroCells zz.cells len:=by simp only [Builtin.zeroCells,hzs]
  simp only [execOp,ho,Instr.buildSlice,Sem.run_bind,run_underlying ht,Result.andThen_ok,sizeOf,typeInfo,run_program,hi,Sem.run_pure,hn24,if_false,hmap,h0,zeroValue,hzz,hzeq,hfill,newRow,run_newObj]
  rfl
theorem op_field (hR : Mrl B w0 w df ι st a) {t : TypeId} {x : Operand} {f : Nat} {fl : Field} (ho : o.op = .field t x f) (hfl : fieldOf P t f = some fl) {cs : List MV} (hx : mval st.tm x = .agg cs) (h : loadM P fl.type (cs.drop fl.offset) (fun v=>y { v }) = some r) :
  ∃ e,y e = some r ∧ Done P B w0 w df ι st a o nid e:=by
 have hv:=mval_rel hR.tm x
 rw [hx] at hv
 obtain ⟨vs,he,hvs,h1⟩:=hv.agg_inv
 obtain ⟨fs,hfs,hf⟩:=Go.Ev.fieldOf_spec hfl
 obtain ⟨v,u,hy,hvu,hor⟩:=loadM_sound h (hvs.drop fl.offset) (fun u hu=>h1 u (List.mem_of_mem_drop hu))
 refine ⟨_,hy,calm hR hvu ?_⟩
 rcases hor with ⟨hag,hle,rfl⟩ | ⟨hag,hs,xs',hxs⟩
 ·obtain ⟨d,hd⟩:=Go.Ev.aggT_some hag
  obtain ⟨i,hi,hsz⟩:=Go.Ev.underlying_info hd
  simp [execOp,ho,he,Instr.field,run_underlying hfs,hf,asAgg,part,Go.Ev.run_isAgg hd,hag,sizeOf,typeInfo,hi,hsz]
 ·obtain ⟨d,hd⟩:=Option.isSome_iff_exists.1 hs
  have hu : vs[fl.offset]? = some u:=by
   have:=congrArg (fun l=>l[0]?) hxs
   simpa using this
  simp [execOp,ho,he,Instr.field,run_underlying hfs,hf,asAgg,part,Go.Ev.run_isAgg hd,hag,hu]
theorem op_index_str (hR : Mrl B w0 w df ι st a) {t : TypeId} {x i : Operand} {s : List UInt8} {k : IntKind} {n : Int} (ho : o.op = .index t x i) (ht : P.underlying t = some .string) (hx : mval st.tm x = .str s) (hi : mval st.tm i = .int k n)
  (hb : inb n s.length = true) : Done P B w0 w df ι st a o nid { v:=.int .u8 ((s.getD n.toNat 0).toNat) }:=by
 have h:=mval_rel hR.tm x
 rw [hx] at h
 have h':=mval_rel hR.tm i
 rw [hi] at h'
 obtain ⟨b0,b1,b2⟩:=Go.Ev.inb_spec hb
 refine calm hR (.int _ _) ?_
 have hg : (ByteArray.mk s.toArray)[n.toNat]? = some (s.getD n.toNat 0):=by
  have hlt : n.toNat < (ByteArray.mk s.toArray).size:=by simpa [ByteArray.size] using b2
  have h0:=getElem?_pos (ByteArray.mk s.toArray) n.toNat hlt
  rw [h0]
  congr 1
  show s.toArray[n.toNat] = _
  simp [List.getD,List.getElem?_eq_getElem b2]
 simp [execOp,ho,h.str_inv,h'.int_inv,Instr.index,asIntOf,run_underlying ht,b0,hg]
theorem op_index_arr (hR : Mrl B w0 w df ι st a) {t e : TypeId} {x i : Operand} {len : Nat} {cs : List MV} {k : IntKind} {n : Int} (ho : o.op = .index t x i) (ht : P.underlying t = some (.array len e)) (hx : mval st.tm x = .agg cs) (hi : mval st.tm i = .int k n)
  (hb : inb n len = true) (h : loadM P e (cs.drop (n.toNat * P.cellsOf e)) (fun v=>y { v }) = some r) : ∃ e,y e = some r ∧ Done P B w0 w df ι st a o nid e:=by
 have hv:=mval_rel hR.tm x
 rw [hx] at hv
 have h':=mval_rel hR.tm i
 rw [hi] at h'
 obtain ⟨b0,b1,b2⟩:=Go.Ev.inb_spec hb
 obtain ⟨vs,he,hvs,h1⟩:=hv.agg_inv
 obtain ⟨v,u,hy,hvu,hor⟩:=loadM_sound h (hvs.drop (n.toNat * P.cellsOf e)) (fun u hu=>h1 u (List.mem_of_mem_drop hu))
 refine ⟨_,hy,calm hR hvu ?_⟩
 rcases hor with ⟨hag,hle,rfl⟩ | ⟨hag,hs,xs',hxs⟩
 ·obtain ⟨d,hd⟩:=Go.Ev.aggT_some hag
  obtain ⟨i,hi,hsz⟩:=Go.Ev.underlying_info hd
  simp [execOp,ho,he,h'.int_inv,Instr.index,asIntOf,run_underlying ht,b0,b1,part,Go.Ev.run_isAgg hd,hag,sizeOf,typeInfo,hi,hsz]
 ·obtain ⟨d,hd⟩:=Option.isSome_iff_exists.1 hs
  obtain ⟨i,hi,hsz⟩:=Go.Ev.underlying_info hd
  have hu : vs[n.toNat * P.cellsOf e]? = some u:=by
   have:=congrArg (fun l=>l[0]?) hxs
   simpa using this
  simp [execOp,ho,he,h'.int_inv,Instr.index,asIntOf,run_underlying ht,b0,b1,part,Go.Ev.run_isAgg hd,hag,sizeOf,typeInfo,hi,hsz,hu]
theorem op_bin (hR : Mrl B w0 w df ι st a) {op : BinOp} {t t' : TypeId} {x z : Operand} (ho : o.op = .binOp op t x z t')
  (h : evBin P op t (mval st.tm x).av (mval st.tm z).av (fun v=>match ofAV v with | some m=>y { v:=m } | none=>none) = some r) : ∃ e,y e = some r ∧ Done P B w0 w df ι st a o nid e:=by
 obtain ⟨v,uu,hy,hv,hrun⟩:=Go.Ev.bin_sound (w:=w) (S:=fun _=>False) (β:=Go.Ev.nob) (ox:=x) (oz:=z) h ((mval_rel hR.tm x).av _ _ _) ((mval_rel hR.tm z).av _ _ _)
 split at hy
 ·rename_i m hm
  refine ⟨_,hy,calm hR (ofAV_rel hv hm) ?_⟩
  simp only [execOp,ho]
  rw [Sem.run_bind,hrun]
  rfl
 ·cases hy
theorem op_nil (hR : Mrl B w0 w df ι st a) {op : BinOp} {t t' e : TypeId} {x z : Operand} {b : Bool} (ho : o.op = .binOp op t x z t') (hz : Go.Ev.isNilC z = true) (ht : P.underlying t = some (.slice e))
  (hb : (mval st.tm x = .slz ∧ b = true) ∨ ((∃ i1 i2 i3 i4 i5,mval st.tm x = .slc i1 i2 i3 i4 i5) ∧ b = false)) (hop : op = .eql ∨ op = .neq) : Done P B w0 w df ι st a o nid { v:=.bool (if op = .eql then b else !b) }:=by
 have hv:=mval_rel hR.tm x
 rw [Go.Ev.isNilC_eq hz] at ho
 have hc : a.eval (.const (.slice none 0 0)) = .slice none 0 0:=rfl
 obtain ⟨A,n,c,hu,hA⟩ : ∃ A n c,a.eval x = .slice A n c ∧ A.isNone = b:=by
  generalize a.eval x = u at hv
  rcases hb with ⟨hb,rfl⟩ | ⟨⟨_,_,_,_,_,hb⟩,rfl⟩ <;> rw [hb] at hv <;> cases hv
  ·exact ⟨none,0,0,rfl,rfl⟩
  ·exact ⟨_,_,_,rfl,rfl⟩
 have heq : (Op.equal t (.slice A n c) (.slice none 0 0)).run P w = .ok A.isNone w:=run_equal_slice_nil w t e A n c ht
 have hg : eqGuard op t x (.const (.slice none 0 0)) (.slice A n c) (.slice none 0 0) = pure ():=by cases op <;> rfl
 rw [hA] at heq
 rcases hop with rfl | rfl
 ·refine calm hR (.bool _) ?_
  simp only [execOp,ho,hu,hc,hg,pure_bind,binOp,Sem.run_bind,heq,Result.andThen_ok,Sem.run_pure,if_true]
 ·refine calm hR (.bool _) ?_
  simp only [execOp,ho,hu,hc,hg,pure_bind,binOp,Sem.run_bind,heq,Result.andThen_ok,Sem.run_pure,if_false,reduceCtorEq]
theorem op_neg (hR : Mrl B w0 w df ι st a) {t : TypeId} {x : Operand} {k : IntKind} {n : Int} (ho : o.op = .unOp .neg t x) (hx : mval st.tm x = .int k n) : Done P B w0 w df ι st a o nid { v:=.int k (k.wrap (0 - n)) }:=by
 have h:=mval_rel hR.tm x
 rw [hx] at h
 exact calm hR (.int _ _) (by simp [execOp,ho,h.int_inv,Op.unary,Op.intArith])
theorem op_not (hR : Mrl B w0 w df ι st a) {t : TypeId} {x : Operand} {b : Bool} (ho : o.op = .unOp .not t x) (hx : mval st.tm x = .bool b) : Done P B w0 w df ι st a o nid { v:=.bool !b }:=by
 have h:=mval_rel hR.tm x
 rw [hx] at h
 exact calm hR (.bool _) (by simp [execOp,ho,h.bool_inv,Op.unary])
theorem op_convert_int (hR : Mrl B w0 w df ι st a) {src dst : TypeId} {x : Operand} {k0 k k1 : IntKind} {n : Int} (ho : o.op = .convert src dst x) (hs : P.underlying src = some (.int k0)) (hd : P.underlying dst = some (.int k)) (hx : mval st.tm x = .int k1 n) :
  Done P B w0 w df ι st a o nid { v:=.int k (k.wrap n) }:=by
 have h:=mval_rel hR.tm x
 rw [hx] at h
 exact calm hR (.int _ _) (by simp [execOp,ho,h.int_inv,convert,run_underlying hs,run_underlying hd,Conv.intToInt])
theorem op_convert_str (hR : Mrl B w0 w df ι st a) {src dst : TypeId} {x : Operand} {s : List UInt8} (ho : o.op = .convert src dst x) (hs : P.underlying src = some .string) (hd : P.underlying dst = some .string) (hx : mval st.tm x = .str s) :
  Done P B w0 w df ι st a o nid { v:=.str s }:=by
 have h:=mval_rel hR.tm x
 rw [hx] at h
 exact calm hR (.str _) (by simp [execOp,ho,h.str_inv,convert,run_underlying hs,run_underlying hd])
theorem op_xor (hR : Mrl B w0 w df ι st a) {t : TypeId} {x : Operand} {k : IntKind} {n : Int} (ho : o.op = .unOp .xor t x) (hx : mval st.tm x = .int k n) :
  Done P B w0 w df ι st a o nid { v:=.int k (k.wrap (BitVec.ofInt k.bits (if k.signed then -1 else k.max) ^^^ BitVec.ofInt k.bits n).toNat) }:=by
 have h:=mval_rel hR.tm x
 rw [hx] at h
 exact calm hR (.int _ _) (by simp only [execOp,ho,h.int_inv,Op.unary,Op.intBits];rfl)
theorem op_nilM (hR : Mrl B w0 w df ι st a) {op : BinOp} {t t' : TypeId} {x z : Operand} {b : Bool} (ho : o.op = .binOp op t x z t') (hb : nilM P t (mval st.tm x) z = some b) (hop : op = .eql ∨ op = .neq) : Done P B w0 w df ι st a o nid { v:=.bool (if op = .eql then b else !b) }:=by
 have hv:=mval_rel hR.tm x
 generalize hu : a.eval x = u at hv
 unfold nilM at hb
 split at hb
 ·rename_i c
  have fin : ∀ b',(Op.equalIn 10000 t u c).run P w = .ok b' w → eqGuard op t x (.const c) u c = pure () → (∀ b',(Op.equal t u c).run P w = .ok b' w → (binOp .eql t u c).run P w = .ok (.bool b') w ∧ (binOp .neq t u c).run P w = .ok (.bool !b') w) → Done P B w0 w df ι st a o nid { v:=.bool (if op = .eql then b' else !b') }:=fun b' h1 h2 h3=>by
   obtain ⟨h4,h5⟩:=h3 b' h1
   have hc : a.eval (.const c) = c:=rfl
   rcases hop with rfl | rfl
   ·exact calm hR (.bool _) (by simp only [execOp,ho,hu,hc,h2,pure_bind,Sem.run_bind,h4,Result.andThen_ok,Sem.run_pure,if_true])
   ·exact calm hR (.bool _) (by simp only [execOp,ho,hu,hc,h2,pure_bind,Sem.run_bind,h5,Result.andThen_ok,Sem.run_pure,if_false,reduceCtorEq])
  split at hb
  all_goals first | (cases hb;done) | (rename_i ht hx;rw [hx] at hv;cases hv;cases hb)
  ·exact fin true ((fun d=>by simp [Op.equalIn,run_underlying ‹P.underlying t = _›] : ∀ d,(Op.equalIn (d + 1) t _ _).run P w = .ok _ w) 9999) (by rcases hop with rfl | rfl <;> cases x <;> rfl) fun b' h=>⟨by simp only [binOp,Sem.run_bind,h,Result.andThen_ok,Sem.run_pure],by simp only [binOp,Sem.run_bind,h,Result.andThen_ok,Sem.run_pure]⟩
  ·exact fin true ((fun d=>by simp [Op.equalIn,run_underlying ‹P.underlying t = _›] : ∀ d,(Op.equalIn (d + 1) t _ _).run P w = .ok _ w) 9999) (by cases op <;> rfl) fun b' h=>⟨by simp only [binOp,Sem.run_bind,h,Result.andThen_ok,Sem.run_pure],by simp only [binOp,Sem.run_bind,h,Result.andThen_ok,Sem.run_pure]⟩
  ·exact fin false ((fun d=>by simp [Op.equalIn,run_underlying ‹P.underlying t = _›] : ∀ d,(Op.equalIn (d + 1) t _ _).run P w = .ok _ w) 9999) (by cases op <;> rfl) fun b' h=>⟨by simp only [binOp,Sem.run_bind,h,Result.andThen_ok,Sem.run_pure],by simp only [binOp,Sem.run_bind,h,Result.andThen_ok,Sem.run_pure]⟩
  ·exact fin true ((fun d=>by simp [Op.equalIn,run_underlying ‹P.underlying t = _›] : ∀ d,(Op.equalIn (d + 1) t _ _).run P w = .ok _ w) 9999) (by cases op <;> rfl) fun b' h=>⟨by simp only [binOp,Sem.run_bind,h,Result.andThen_ok,Sem.run_pure],by simp only [binOp,Sem.run_bind,h,Result.andThen_ok,Sem.run_pure]⟩
  ·exact fin false ((fun d=>by simp [Op.equalIn,run_underlying ‹P.underlying t = _›] : ∀ d,(Op.equalIn (d + 1) t _ _).run P w = .ok _ w) 9999) (by cases op <;> rfl) fun b' h=>⟨by simp only [binOp,Sem.run_bind,h,Result.andThen_ok,Sem.run_pure],by simp only [binOp,Sem.run_bind,h,Result.andThen_ok,Sem.run_pure]⟩
  ·exact fin false ((fun d=>by simp [Op.equalIn,run_underlying ‹P.underlying t = _›] : ∀ d,(Op.equalIn (d + 1) t _ _).run P w = .ok _ w) 9999) (by cases op <;> rfl) fun b' h=>⟨by simp only [binOp,Sem.run_bind,h,Result.andThen_ok,Sem.run_pure],by simp only [binOp,Sem.run_bind,h,Result.andThen_ok,Sem.run_pure]⟩
  ·exact fin true ((fun d=>by simp [Op.equalIn,run_underlying ‹P.underlying t = _›] : ∀ d,(Op.equalIn (d + 1) t _ _).run P w = .ok _ w) 9999) (by cases op <;> rfl) fun b' h=>⟨by simp only [binOp,Sem.run_bind,h,Result.andThen_ok,Sem.run_pure],by simp only [binOp,Sem.run_bind,h,Result.andThen_ok,Sem.run_pure]⟩
  ·exact fin false ((fun d=>by simp [Op.equalIn,run_underlying ‹P.underlying t = _›] : ∀ d,(Op.equalIn (d + 1) t _ _).run P w = .ok _ w) 9999) (by cases op <;> rfl) fun b' h=>⟨by simp only [binOp,Sem.run_bind,h,Result.andThen_ok,Sem.run_pure],by simp only [binOp,Sem.run_bind,h,Result.andThen_ok,Sem.run_pure]⟩
 ·cases hb
end ops
end Go.Mi

namespace Go.Mi
open Go.RowKit
open Go.Ev (AV Sh Summ Env Ex nilB VRel VRels Kept Glb isAggT placeOf partsKnown fieldOf evBin shOf depth roomB lenB inb slb decA minInt maxInt)
section ops
variable {ρ : Type} {P : Program} {B : Nat → Prop} {w0 w : World} {df : List Deferred} {ι : Io} {st : MSt} {a : Act} {o : Oper} {nid : Nat} {y : MEff → Option ρ} {r : ρ}
theorem splice_in {α : Type} (arr us : List α) (s j n : Nat) (h : j + us.length ≤ n) (hn : s + n ≤ arr.length) :
  ((arr.take (s + j) ++ us ++ arr.drop (s + j + us.length)).drop s).take n = ((arr.drop s).take n).take j ++ us ++ ((arr.drop s).take n).drop (j + us.length):=by
 apply List.ext_getElem?
 intro i
 simp only [List.getElem?_take,List.getElem?_drop,List.getElem?_append,List.length_take,List.length_append,List.length_drop]
 by_cases h1 : i < n
 ·by_cases h2 : i < j
  ·simp [h1,h2,show s + i < s + j by omega,show s + i < min (s + j) arr.length by omega,show i < min j (min n (arr.length - s)) by omega,show s + i < min (s + j) arr.length + us.length by omega,show i < min j (min n (arr.length - s)) + us.length by omega]
  ·by_cases h3 : i < j + us.length
   ·simp [h1,show ¬ s + i < min (s + j) arr.length by omega,show ¬ i < min j (min n (arr.length - s)) by omega,show s + i < min (s + j) arr.length + us.length by omega,show i < min j (min n (arr.length - s)) + us.length by omega,show s + i - min (s + j) arr.length = i - min j (min n (arr.length - s)) by omega]
   ·simp [h1,show ¬ s + i < min (s + j) arr.length + us.length by omega,show ¬ i < min j (min n (arr.length - s)) + us.length by omega,show s + j + us.length + (s + i - (min (s + j) arr.length + us.length)) = s + i by omega,show j + us.length + (i - (min j (min n (arr.length - s)) + us.length)) = i by omega]
 ·simp only [h1,if_false]
  have : ¬ i < min j (min n (arr.length - s)) + us.length:=by omega
  rw [if_neg this]
  have : ¬ j + us.length + (i - (min j (min n (arr.length - s)) + us.length)) < n:=by omega
  rw [if_neg this]
theorem Mrl.write (hR : Mrl B w0 w df ι st a) {id j : Nat} {cs ds : List MV} {us : List Value} {p : Pl} (hg : get st.h id = some (.cells false cs)) (hp : ι id = some p) (hj : j + ds.length ≤ cs.length) (hv : MRels ι ds us) (h1 : ∀ u ∈ us,u.oneCell' = true) :
  ∃ (arr : List Value) (t : TypeId) (fz : Nat × Nat),w.heap[p.g]? = some (.cells arr.toArray t fz) ∧ (storeCells ⟨p.g,p.sh + j,none⟩ us).run P w = .ok () (w.setRow p.g (arr.take (p.sh + j) ++ us ++ arr.drop (p.sh + j + us.length)).toArray) ∧
   Mrl B w0 (w.setRow p.g (arr.take (p.sh + j) ++ us ++ arr.drop (p.sh + j + us.length)).toArray) df ι ⟨st.tm,set1 st.h (id,some (.cells false (splice cs j ds))),st.nx⟩ a:=by
 obtain ⟨arr,t,fz,hh,hsz,hfz,hle,ha1,hvs⟩:=hR.cells hg hp
 have hfit : p.sh + j + us.length ≤ arr.length:=by rw [hv.1];omega
 have hst:=Go.Ev.run_storeCells_atM P p.g (p.sh + j) t fz us 0 arr.toArray w hh (by simpa using hfz rfl) (by simpa using hfit) h1
 simp only [Nat.add_zero] at hst
 refine ⟨arr,t,fz,hh,hst,hR.mod hg hp (Go.Ev.grownBy_setRow w p.g _) ?_⟩
 have hlen : (arr.take (p.sh + j) ++ us ++ arr.drop (p.sh + j + us.length)).length = arr.length:=by simp;omega
 have hcl : (splice cs j ds).length = cs.length:=by simp [Go.Mi.splice];omega
 refine ⟨_,t,fz,setRow_heap w p.g _ _ t _ hh,by rw [hlen];exact hsz,fun h=>by rw [hlen];exact hfz h,by rw [hcl];exact hle,splice_one ha1 h1,?_⟩
 rw [hcl,splice_in arr us p.sh j cs.length (by rw [hv.1];exact hj) (by rw [hsz];exact hle)]
 exact hvs.splice hv j
theorem op_store (hR : Mrl B w0 w df ι st a) {t : TypeId} {x z : Operand} {id off : Nat} {cs : List MV} (ho : o.op = .store t x z) (hlaid : (mval st.tm z).laid = true) (hn : (mval st.tm z).cells.length = P.cellsOf t) (hn0 : P.cellsOf t ≠ 0)
  (hx : mval st.tm x = .ptr id off) (hg : get st.h id = some (.cells false cs)) (hle : off + (mval st.tm z).cells.length ≤ cs.length) :
  Done P B w0 w df ι st a o nid { v:=.undef,reads:=[id],sets:=[(id,some (.cells false (splice cs off (mval st.tm z).cells)))] }:=by
 obtain ⟨us,huc,hus,hu1⟩:=(mval_rel hR.tm z).laid hlaid
 have hpv:=mval_rel hR.tm x
 rw [hx] at hpv
 obtain ⟨p,hp,he⟩:=ptr_inv hpv
 obtain ⟨i,hi,hisz⟩:=Go.Ev.cellsOf_info hn0
 obtain ⟨arr,tt,fz,hh,hst,hM⟩:=hR.write (P:=P) hg hp hle hus hu1
 refine ⟨undef,_,ι,.inr ⟨?_,rfl⟩,Ext.refl _,fun _ _=>rfl,.undef,hM⟩
 have hul : us.length = P.cellsOf t:=by rw [hus.1];exact hn
 have hsz : (a.eval z).cells.size = i.size:=by rw [huc,hisz,← hul];simp
 simp only [execOp,ho,he,Instr.storeAt,Instr.sureAddr,pure_bind,storeVar,sizeOf,typeInfo,Sem.run_bind,run_program,Result.andThen_ok,hi,Sem.run_pure,hsz]
 simp [huc,hst]
theorem bndM_rel (hR : Mrl B w0 w df ι st a) {x : Option Operand} {d : Nat} {n : Int} (h : bndM d (x.map (mval st.tm)) = some n) : (x = none ∧ n = d) ∨ ∃ z k,x = some z ∧ a.eval z = .int k n:=by
 cases x with
 | none=>simp [bndM] at h;exact .inl ⟨rfl,h.symm⟩
 | some z =>
  have hv:=mval_rel hR.tm z
  simp only [Option.map_some,bndM] at h
  generalize mval st.tm z = v at h hv
  cases v <;> simp [intM] at h
  rename_i k m
  subst h
  exact .inr ⟨z,k,rfl,hv.int_inv⟩
theorem run_boundsM (hR : Mrl B w0 w df ι st a) {lo hi mx : Option Operand} {l n m : Int} {len cap : Nat} {sl : Bool} (hl : bndM 0 (lo.map (mval st.tm)) = some l) (hh : bndM len (hi.map (mval st.tm)) = some n) (hm : bndM cap (mx.map (mval st.tm)) = some m)
  (h0 : 0 ≤ l) (h1 : l ≤ n) (h2 : n ≤ m) (hmx : mx = none ∨ hi ≠ none) {cap' : Nat} (hc : m ≤ cap') :
  (Instr.sliceBounds sl len cap' (lo.map a.eval) (hi.map a.eval) (mx.map a.eval)).run P w = .ok (l.toNat,n.toNat,if mx = none then cap' else m.toNat) w:=by
 rcases bndM_rel hR hl with ⟨rfl,e0⟩ | ⟨z,k,rfl,e0⟩ <;> rcases bndM_rel hR hh with ⟨rfl,e1⟩ | ⟨z',k',rfl,e1⟩ <;> rcases bndM_rel hR hm with ⟨rfl,e2⟩ | ⟨z2,k2,rfl,e2⟩
 ·subst e0 e1;simp [Instr.sliceBounds]
 ·simp at hmx
 ·subst e0
  have hb:=fun c=>Go.Ev.run_sliceBound (P:=P) (w:=w) (k:=k') (n:=n) (m:=cap') c (by omega) (by omega)
  simp [Instr.sliceBounds,e1,hb]
 ·subst e0
  have hb2:=fun c=>Go.Ev.run_sliceBound (P:=P) (w:=w) (k:=k2) (n:=m) (m:=cap') c (by omega) (by omega)
  have hb:=fun c=>Go.Ev.run_sliceBound (P:=P) (w:=w) (k:=k') (n:=n) (m:=m.toNat) c (by omega) (by omega)
  simp [Instr.sliceBounds,e1,e2,hb,hb2]
 ·subst e1
  have hb:=fun c=>Go.Ev.run_sliceBound (P:=P) (w:=w) (k:=k) (n:=l) (m:=len) c (by omega) (by omega)
  simp [Instr.sliceBounds,e0,hb]
 ·simp at hmx
 ·have hb:=fun c=>Go.Ev.run_sliceBound (P:=P) (w:=w) (k:=k') (n:=n) (m:=cap') c (by omega) (by omega)
  have hb':=fun c=>Go.Ev.run_sliceBound (P:=P) (w:=w) (k:=k) (n:=l) (m:=n.toNat) c (by omega) (by omega)
  simp [Instr.sliceBounds,e0,e1,hb,hb']
 ·have hb2:=fun c=>Go.Ev.run_sliceBound (P:=P) (w:=w) (k:=k2) (n:=m) (m:=cap') c (by omega) (by omega)
  have hb:=fun c=>Go.Ev.run_sliceBound (P:=P) (w:=w) (k:=k') (n:=n) (m:=m.toNat) c (by omega) (by omega)
  have hb':=fun c=>Go.Ev.run_sliceBound (P:=P) (w:=w) (k:=k) (n:=l) (m:=n.toNat) c (by omega) (by omega)
  simp [Instr.sliceBounds,e0,e1,e2,hb,hb',hb2]
theorem op_slice_str (hR : Mrl B w0 w df ι st a) {t : TypeId} {x : Operand} {lo hi : Option Operand} {s : List UInt8} {l n : Int} (ho : o.op = .slice t x lo hi none) (ht : P.underlying t = some .string) (hx : mval st.tm x = .str s)
  (hl : bndM 0 (lo.map (mval st.tm)) = some l) (hh : bndM s.length (hi.map (mval st.tm)) = some n) (hb : slb l n s.length = true) : Done P B w0 w df ι st a o nid { v:=.str ((s.drop l.toNat).take (n.toNat - l.toNat)) }:=by
 simp only [slb,Bool.and_eq_true,decide_eq_true_eq] at hb
 have h:=mval_rel hR.tm x
 rw [hx] at h
 refine calm hR (.str _) ?_
 have hbd:=run_boundsM (P:=P) (mx:=none) (m:=s.length) (cap:=s.length) (cap':=s.length) (sl:=false) hR hl hh rfl hb.1 hb.2.1 hb.2.2 (.inl rfl) (by omega)
 have hsz : (ByteArray.mk s.toArray).size = s.length:=by simp [ByteArray.size]
 simp only [Option.map_none] at hbd
 simp [execOp,ho,h.str_inv,Instr.sliceAt,run_underlying ht,Instr.slice,hsz,hbd,Go.Ev.extract_mk]
theorem op_slice_slz (hR : Mrl B w0 w df ι st a) {t e : TypeId} {x : Operand} {lo hi mx : Option Operand} {l n m : Int} (ho : o.op = .slice t x lo hi mx) (ht : P.underlying t = some (.slice e)) (hx : mval st.tm x = .slz) (hin : (P.info? e).isSome = true)
  (hl : bndM 0 (lo.map (mval st.tm)) = some l) (hh : bndM 0 (hi.map (mval st.tm)) = some n) (hm : bndM 0 (mx.map (mval st.tm)) = some m) (hl0 : l = 0) (hn0 : n = 0) (hm0 : m = 0) (hmx : mx = none ∨ hi ≠ none) : Done P B w0 w df ι st a o nid { v:=.slz }:=by
 subst hl0 hn0 hm0
 have h:=mval_rel hR.tm x
 rw [hx] at h
 obtain ⟨i,hi'⟩:=Option.isSome_iff_exists.1 hin
 have hbd:=run_boundsM (P:=P) (cap':=0) (sl:=true) hR hl hh hm (by omega) (by omega) (by omega) hmx (by omega)
 refine calm hR .slz ?_
 simp [execOp,ho,h.slz_inv,Instr.sliceAt,run_underlying ht,Instr.slice,hbd,sizeOf,typeInfo,hi']
theorem op_slice_slc (hR : Mrl B w0 w df ι st a) {t e : TypeId} {x : Operand} {lo hi mx : Option Operand} {l n m : Int} {id off len cap wd : Nat} (ho : o.op = .slice t x lo hi mx) (ht : P.underlying t = some (.slice e)) (hx : mval st.tm x = .slc id off len cap wd) (hwd : wd = P.cellsOf e)
  (hl : bndM 0 (lo.map (mval st.tm)) = some l) (hh : bndM len (hi.map (mval st.tm)) = some n) (hm : bndM cap (mx.map (mval st.tm)) = some m) (h0 : 0 ≤ l) (h1 : l ≤ n) (h2 : n ≤ m) (h3 : m ≤ cap) (hmx : mx = none ∨ hi ≠ none) :
  Done P B w0 w df ι st a o nid { v:=.slc id (off + l.toNat * wd) (n.toNat - l.toNat) (m.toNat - l.toNat) wd }:=by
 have h:=mval_rel hR.tm x
 rw [hx] at h
 generalize he : a.eval x = u at h
 cases h with
 | slc _ _ _ _ _ p o' cap' hp hlc hc hmm ho' hs hz hw =>
  obtain ⟨i,hi',hsz⟩:=Go.Ev.cellsOf_info (P:=P) (t:=e) (by omega)
  have hbd:=run_boundsM (P:=P) (cap':=cap') (sl:=true) hR hl hh hm h0 h1 h2 hmx (by omega)
  generalize hM : (if mx = none then cap' else m.toNat) = M at hbd
  have hM1 : m.toNat ≤ M:=by subst hM;split <;> omega
  have hM2 : M ≤ cap':=by subst hM;split <;> omega
  have hln : l.toNat ≤ n.toNat:=by omega
  have hnm : n.toNat ≤ m.toNat:=by omega
  have hrun : (execOp a.eval o).run P w = .ok (.value (.slice (some (if M = l.toNat then ⟨p.g,o',none⟩ else ⟨p.g,o' + l.toNat * wd,none⟩)) (n.toNat - l.toNat) (M - l.toNat))) w:=by
   simp only [execOp,ho,he,Instr.sliceAt,Sem.run_bind,run_underlying ht,Result.andThen_ok,Instr.slice,hbd,sizeOf,typeInfo,run_program,hi',Sem.run_pure,hsz,← hwd]
   split <;> simp [Go.Ev.add_lit']
  by_cases hq : M = l.toNat
  ·rw [if_pos hq] at hrun
   refine calm hR ?_ hrun
   refine .slc id _ _ _ wd p o' (M - l.toNat) hp (by omega) (by omega) (by omega) (fun hpos=>by omega) hs ?_ hw
   refine Nat.le_trans ?_ hz
   exact Nat.add_le_add_left (Nat.mul_le_mul_right _ (by omega)) _
  ·rw [if_neg hq] at hrun
   refine calm hR ?_ hrun
   refine .slc id _ _ _ wd p (o' + l.toNat * wd) (M - l.toNat) hp (by omega) (by omega) (by omega) (fun hpos=>?_) (by omega) ?_ hw
   ·have:=ho' (by omega)
    omega
   ·refine Nat.le_trans ?_ hz
    rw [Nat.add_assoc,← Nat.add_mul]
    exact Nat.add_le_add_left (Nat.mul_le_mul_right _ (by omega)) _
theorem op_slice_arr (hR : Mrl B w0 w df ι st a) {t e : TypeId} {x : Operand} {lo hi : Option Operand} {l n : Int} {id off k : Nat} {cs : List MV} (ho : o.op = .slice t x lo hi none) (ht : P.underlying t = some (.array k e)) (hx : mval st.tm x = .ptr id off) (hw0 : P.cellsOf e ≠ 0) (hc : cellsAt st.h id = some cs) (hle : off + k * P.cellsOf e ≤ cs.length)
  (hl : bndM 0 (lo.map (mval st.tm)) = some l) (hh : bndM k (hi.map (mval st.tm)) = some n) (h0 : 0 ≤ l) (h1 : l ≤ n) (h2 : n ≤ k) (hk : k ≤ maxLen) :
  Done P B w0 w df ι st a o nid { v:=.slc id (off + l.toNat * P.cellsOf e) (n.toNat - l.toNat) (k - l.toNat) (P.cellsOf e),reads:=[id] }:=by
 have h:=mval_rel hR.tm x
 rw [hx] at h
 obtain ⟨p,hp,he⟩:=ptr_inv h
 obtain ⟨frz,hg⟩ : ∃ frz,get st.h id = some (.cells frz cs):=by
  unfold cellsAt at hc
  split at hc
  ·rename_i f c hg;cases hc;exact ⟨f,hg⟩
  ·cases hc
 obtain ⟨arr,tt,fz,hhh,hsz,hfz,hle2,ha1,hvs⟩:=hR.cells hg hp
 obtain ⟨i,hi',hisz⟩:=Go.Ev.cellsOf_info (P:=P) hw0
 have hbd:=run_boundsM (P:=P) (mx:=none) (m:=(k : Nat)) (cap:=k) (cap':=k) (sl:=false) hR hl hh rfl h0 h1 h2 (.inl rfl) (by omega)
 simp only [Option.map_none,if_true] at hbd
 have hrun : (execOp a.eval o).run P w = .ok (.value (.slice (some (if k = l.toNat then ⟨p.g,p.sh + off,none⟩ else ⟨p.g,p.sh + off + l.toNat * P.cellsOf e,none⟩)) (n.toNat - l.toNat) (k - l.toNat))) w:=by
  simp only [execOp,ho,he,Instr.sliceAt,Sem.run_bind,run_underlying ht,Result.andThen_ok,Instr.sureAddr,Sem.run_pure,Option.map_none,hbd,sizeOf,typeInfo,run_program,hi',hisz]
  split <;> simp [Go.Ev.add_lit']
 have hln : l.toNat ≤ n.toNat:=by omega
 have hkk : l.toNat * P.cellsOf e + (k - l.toNat) * P.cellsOf e = k * P.cellsOf e:=by rw [← Nat.add_mul];congr 1;omega
 by_cases hq : k = l.toNat
 ·rw [if_pos hq] at hrun
  exact calm hR (.slc id _ _ _ _ p (p.sh + off) (k - l.toNat) hp (by omega) (by omega) (by omega) (fun hpos=>by omega) (by omega) (by omega) (by omega)) hrun
 ·rw [if_neg hq] at hrun
  exact calm hR (.slc id _ _ _ _ p (p.sh + off + l.toNat * P.cellsOf e) (k - l.toNat) hp (by omega) (by omega) (by omega) (fun hpos=>by omega) (by omega) (by omega) (by omega)) hrun
end ops
end Go.Mi
