/-
 The machine: what regions,code and calls do is so. Second part.
-/
import Derived.Test.YtijdnecnjenleaaGreatDoorMiAa

set_option linter.unusedVariables false
set_option linter.unusedSimpArgs false
namespace Go.Mi
open Go.Ev (AV Sh Summ Env Ex find entersB isAggT placeOf partsKnown fieldOf evBin nilB shOf depth roomB lenB inb slb decA minInt maxInt union1 ancTab)
noncomputable def mvs (mv : Operand → MV) (l : List Operand) : List MV:=@List.rec Operand (fun _=>List MV) [] (fun x _ ih=>mv x :: ih) l
theorem mvs_eq (tm : List MV) : ∀ l : List Operand,mvs (mval tm) l = mvals tm l
 | []=>rfl
 | x :: l=>by
  show mval tm x :: mvs (mval tm) l = _
  rw [mvs_eq tm l];rfl
noncomputable def overQ (new cs : List MV) : List MV:=@List.rec MV (fun _=>List MV → List MV) (fun cs=>cs) (fun a _ ih cs=>a :: ih (dropQ 1 cs)) new cs
theorem overQ_eq : ∀ (new cs : List MV),overQ new cs = new ++ cs.drop new.length
 | [],cs=>by simp [overQ]
 | a :: new,cs=>by
  show a :: overQ new (dropQ 1 cs) = _
  rw [overQ_eq new,dropQ_eq,List.drop_drop]
  simp [Nat.add_comm]
noncomputable def spliceQ (cs : List MV) (off : Nat) (new : List MV) : List MV :=
 @Nat.rec (fun _=>List MV → List MV) (fun cs=>overQ new cs) (fun _ ih cs=>@List.rec MV (fun _=>List MV) (overQ new []) (fun a cs _=>a :: ih cs) cs) off cs
theorem spliceQ_eq : ∀ (cs : List MV) (off : Nat) (new : List MV),spliceQ cs off new = splice cs off new
 | cs,0,new=>by
  show overQ new cs = _
  rw [overQ_eq];simp [splice]
 | [],n + 1,new=>by
  show overQ new [] = _
  rw [overQ_eq];simp [splice]
 | a :: cs,n + 1,new=>by
  show a :: spliceQ cs n new = _
  rw [spliceQ_eq cs n new]
  simp only [splice,List.take_succ_cons,List.cons_append,Nat.add_right_comm n 1,List.drop_succ_cons]
noncomputable def fillQ (place : Nat → Option (Nat × Nat)) (cells : List MV) : List (Nat × MV) → Option (List MV)
 | []=>some cells
 | (i,v) :: rest =>
  match place i with
  | none=>none
  | some p =>
   if v.laid && ((lenQ v.cells) == p.2 && Nat.ble (p.1 + (lenQ v.cells)) (lenQ cells)) then fillQ place (spliceQ cells p.1 v.cells) rest else none
noncomputable def loadQ {ρ : Type} (P : Program) (t : TypeId) (cs : List MV) (y : MV → Option ρ) : Option ρ :=
 if isAggT P t then
  (if Nat.ble (P.cellsOf t) (lenQ cs) then y (.agg (takeQ (P.cellsOf t) cs)) else none)
 else if (P.underlying t).isSome then
  match cs with
  | c :: _=>y c
  | []=>none
 else none
noncomputable def elemsQ (h : List (Nat × LObj)) (wd : Nat) : MV → Option (List MV × List Nat)
 | .slz=>some ([],[])
 | .slc id off len _ wd'=>if Nat.beq wd wd' then (match cellsAt h id with
  | some cs=>if Nat.ble (off + len * wd) (lenQ cs) then some (takeQ (len * wd) (dropQ off cs),[id]) else none
  | none=>none) else none
 | _=>none
noncomputable def srcQ (P : Program) (h : List (Nat × LObj)) (e t' : TypeId) (z : MV) : Option (List MV × List Nat) :=
 match P.underlying t' with
 | some .string=>match z with
  | .str b=>if Nat.beq (P.cellsOf e) 1 then some (bytesM b,[]) else none
  | _=>none
 | some (.slice e')=>if Nat.beq e e' then elemsQ h (P.cellsOf e) z else none
 | _=>none
noncomputable def appToQ {ρ : Type} (P : Program) (nid : Nat) (e : TypeId) (q : List MV × List Nat) (x : MV) (h : List (Nat × LObj)) (y : MEff → Option ρ) : Option ρ :=
 match x with
 | .slz=>if q.1.isEmpty then y { v:=.slz,reads:=q.2 } else
  if roomB ((lenQ q.1) / P.cellsOf e) (P.bytesOf e) then
   y { v:=.slc nid 0 ((lenQ q.1) / P.cellsOf e) ((lenQ q.1) / P.cellsOf e) (P.cellsOf e),reads:=q.2,sets:=[(nid,some (.cells false q.1))] }
  else none
 | .slc id off len cap wd =>
  if !Nat.beq wd (P.cellsOf e) then none else
  if q.1.isEmpty then y { v:=.slc id off len cap wd,reads:=q.2 } else
  match get h id with
  | some (.cells false cs) =>
   if Nat.ble (len + (lenQ q.1) / wd) cap then
    (if Nat.ble (off + len * wd + (lenQ q.1)) (lenQ cs) then
     y { v:=.slc id off (len + (lenQ q.1) / wd) cap wd,reads:=id :: q.2,sets:=[(id,some (.cells false (spliceQ cs (off + len * wd) q.1)))] }
    else none)
   else if Nat.ble (off + len * wd) (lenQ cs) && roomB (len + (lenQ q.1) / wd) (P.bytesOf e) then
    y { v:=.slc nid 0 (len + (lenQ q.1) / wd) (len + (lenQ q.1) / wd) wd,reads:=id :: q.2,sets:=[(id,none),(nid,some (.cells false (appQ (takeQ (len * wd) (dropQ off cs)) q.1)))] }
   else none
  | _=>none
 | _=>none
noncomputable def appendQ {ρ : Type} (P : Program) (nid : Nat) (ts : List TypeId) (args : List MV) (h : List (Nat × LObj)) (y : MEff → Option ρ) : Option ρ :=
 match ts,args with
 | [t,t'],[x,z] =>
  match P.underlying t with
  | some (.slice e) =>
   if !elemM P e then none else
   match P.underlying t',x,z with
   | some (.int _),.slz,.int .i64 n =>
    if decide (0 < n) && (decide (n ≤ 100000) && roomB n.toNat (P.bytesOf e)) then (match zerosM P e n.toNat with
     | some l=>y { v:=.slc nid 0 n.toNat n.toNat (P.cellsOf e),sets:=[(nid,some (.cells false l))] }
     | none=>none) else none
   | _,_,_ =>
   match srcQ P h e t' z with
   | none=>none
   | some q =>
    appToQ P nid e q x h y
  | _=>none
 | _,_=>none
noncomputable def builtinQ {ρ : Type} (P : Program) (nid : Nat) (b : Builtin) (ts : List TypeId) (args : List MV) (h : List (Nat × LObj)) (y : MEff → Option ρ) : Option ρ :=
 match b with
 | .append=>appendQ P nid ts args h y
 | .len =>
  match ts,args with
  | t :: _,[x] =>
   match P.underlying t,x with
   | some .string,.str s=>y { v:=.int .i64 (lenQ s) }
   | some (.slice _),.slz=>y { v:=.int .i64 0 }
   | some (.slice _),.slc _ _ len _ _=>y { v:=.int .i64 len }
   | _,_=>none
  | _,_=>none
 | .cap =>
  match ts,args with
  | t :: _,[.slz] =>
   match P.underlying t with
   | some (.slice _)=>y { v:=.int .i64 0 }
   | _=>none
  | _,_=>none
 | .copy =>
  match ts,args with
  | [t,t'],[x,z] =>
   match P.underlying t with
   | some (.slice e) =>
    match srcQ P h e t' z with
    | none=>none
    | some q =>
     match x with
     | .slc id off len _ wd =>
      if !Nat.beq wd (P.cellsOf e) || !elemM P e then none else
      match get h id with
      | some (.cells false cs) =>
       if Nat.ble (off + min ((lenQ q.1) / wd) len * wd) (lenQ cs) then
        y { v:=.int .i64 (min ((lenQ q.1) / wd) len : Nat),reads:=id :: q.2,sets:=[(id,some (.cells false (spliceQ cs off (q.1.take (min ((lenQ q.1) / wd) len * wd)))))] }
       else none
      | _=>none
     | _=>none
   | _=>none
  | _,_=>none
 | .clear =>
  match ts,args with
  | [t],[x] =>
   match P.underlying t,x with
   | some (.slice _),.slz=>y { v:=.undef }
   | some (.slice _),.slc _ _ 0 _ _=>y { v:=.undef }
   | some (.slice e),.slc id off len _ _ =>
    if !elemM P e || Nat.beq len 0 then none else
    match get h id,zerosM P e len with
    | some (.cells false cs),some z =>
     if Nat.ble (off + (lenQ z)) (lenQ cs) then y { v:=.undef,reads:=[id],sets:=[(id,some (.cells false (spliceQ cs off z)))] } else none
    | _,_=>none
   | _,_=>none
  | _,_=>none
 | .min =>
  match args with
  | .int kk x :: rest=>match minInt kk x (MV.avs rest) with
   | some n=>y { v:=.int kk n }
   | none=>none
  | _=>none
 | .max =>
  match args with
  | .int kk x :: rest=>match maxInt kk x (MV.avs rest) with
   | some n=>y { v:=.int kk n }
   | none=>none
  | _=>none
 | _=>none
theorem fillQ_eq (place : Nat → Option (Nat × Nat)) : ∀ (l : List (Nat × MV)) (cells : List MV),fillQ place cells l = fillM place cells l
 | [],_=>rfl
 | (i,v) :: rest,cells=>by
  simp only [fillQ,fillM,spliceQ_eq,lenQ_eq,fillQ_eq place rest] <;> rfl
theorem loadQ_eq {ρ : Type} (P : Program) (t : TypeId) (cs : List MV) (y : MV → Option ρ) : loadQ P t cs y = loadM P t cs y:=by simp only [loadQ,loadM,takeQ_eq,lenQ_eq] <;> rfl
theorem elemsQ_eq (h : List (Nat × LObj)) (wd : Nat) (v : MV) : elemsQ h wd v = elemsM h wd v:=by
 unfold elemsQ elemsM
 simp only [takeQ_eq,dropQ_eq,lenQ_eq] <;> rfl
theorem srcQ_eq (P : Program) (h : List (Nat × LObj)) (e t' : TypeId) (z : MV) : srcQ P h e t' z = srcM P h e t' z:=by
 unfold srcQ srcM
 simp only [elemsQ_eq] <;> rfl
theorem appToQ_eq {ρ : Type} (P : Program) (nid : Nat) (e : TypeId) (q : List MV × List Nat) (x : MV) (h : List (Nat × LObj)) (y : MEff → Option ρ) : appToQ P nid e q x h y = appTo P nid e q x h y:=by
 unfold appToQ appTo
 simp only [takeQ_eq,dropQ_eq,lenQ_eq,appQ_eq,spliceQ_eq] <;> rfl
theorem appendQ_eq {ρ : Type} (P : Program) (nid : Nat) (ts : List TypeId) (args : List MV) (h : List (Nat × LObj)) (y : MEff → Option ρ) : appendQ P nid ts args h y = appendM P nid ts args h y:=by
 unfold appendQ appendM
 simp only [appToQ_eq,srcQ_eq] <;> rfl
theorem builtinQ_eq {ρ : Type} (P : Program) (nid : Nat) (b : Builtin) (ts : List TypeId) (args : List MV) (h : List (Nat × LObj)) (y : MEff → Option ρ) : builtinQ P nid b ts args h y = builtinM P nid b ts args h y:=by
 unfold builtinQ builtinM
 simp only [appendQ_eq,srcQ_eq,takeQ_eq,lenQ_eq,spliceQ_eq] <;> rfl
noncomputable def q_move {ρ : Type} (P : Program) (nid : Nat) (mv : Operand → MV) (h : List (Nat × LObj)) (x : Operand) (y : MEff → Option ρ) : Option ρ:=y { v:=mv x }
noncomputable def q_assign {ρ : Type} (P : Program) (nid : Nat) (mv : Operand → MV) (h : List (Nat × LObj)) (x : Operand) (y : MEff → Option ρ) : Option ρ:=y { v:=mv x }
noncomputable def q_pick {ρ : Type} (P : Program) (nid : Nat) (mv : Operand → MV) (h : List (Nat × LObj)) (c a b : Operand) (y : MEff → Option ρ) : Option ρ :=
  match mv c with
  | .bool t=>bif t then y { v:=mv a } else y { v:=mv b }
  | _=>none
noncomputable def q_alloc {ρ : Type} (P : Program) (nid : Nat) (mv : Operand → MV) (h : List (Nat × LObj)) (t : TypeId) (y : MEff → Option ρ) : Option ρ :=
  match zeroM P t with
  | some cs=>y { v:=.ptr nid 0,sets:=[(nid,some (.cells false cs))] }
  | none=>none
noncomputable def q_box {ρ : Type} (P : Program) (nid : Nat) (mv : Operand → MV) (h : List (Nat × LObj)) (t : TypeId) (x : Operand) (y : MEff → Option ρ) : Option ρ :=
  if (mv x).laid then y { v:=.ptr nid 0,sets:=[(nid,some (.cells false (mv x).cells))] } else none
noncomputable def q_build {ρ : Type} (P : Program) (nid : Nat) (mv : Operand → MV) (h : List (Nat × LObj)) (t : TypeId) (parts : Array (Nat × Operand)) (y : MEff → Option ρ) : Option ρ :=
  match zeroM P t with
  | some cs =>
   if partsKnown P t then
    match fillQ (placeOf P t) cs (parts.toList.map fun p=>(p.1,mv p.2)) with
    | some cs'=>y { v:=.agg cs' }
    | none=>none
   else none
  | none=>none
noncomputable def q_buildSlice {ρ : Type} (P : Program) (nid : Nat) (mv : Operand → MV) (h : List (Nat × LObj)) (t : TypeId) (len : Nat) (parts : Array (Nat × Operand)) (y : MEff → Option ρ) : Option ρ :=
  match P.underlying t with
  | some (.slice e) =>
   if !elemM P e || (Nat.blt 1000 len || Nat.blt 1000 (P.cellsOf e)) then none else
   match zerosM P e len with
   | some z =>
    match fillQ (fun i=>some (i * P.cellsOf e,P.cellsOf e)) z (parts.toList.map fun p=>(p.1,mv p.2)) with
    | some cs=>y { v:=.slc nid 0 len len (P.cellsOf e),sets:=[(nid,some (.cells false cs))] }
    | none=>none
   | none=>none
  | _=>none
noncomputable def q_load {ρ : Type} (P : Program) (nid : Nat) (mv : Operand → MV) (h : List (Nat × LObj)) (t : TypeId) (a : Operand) (y : MEff → Option ρ) : Option ρ :=
  match mv a with
  | .ptr id off=>match cellsAt h id with
   | some cs=>loadQ P t (dropQ off cs) fun v=>y { v,reads:=[id] }
   | none=>none
  | _=>none
noncomputable def q_store {ρ : Type} (P : Program) (nid : Nat) (mv : Operand → MV) (h : List (Nat × LObj)) (t : TypeId) (a x : Operand) (y : MEff → Option ρ) : Option ρ :=
  if (mv x).laid && ((lenQ (mv x).cells) == P.cellsOf t && P.cellsOf t != 0) then
   match mv a with
   | .ptr id off=>match get h id with
    | some (.cells false cs) =>
     if Nat.ble (off + (lenQ (mv x).cells)) (lenQ cs) then
      y { v:=.undef,reads:=[id],sets:=[(id,some (.cells false (spliceQ cs off (mv x).cells)))] }
     else none
    | _=>none
   | _=>none
  else none
noncomputable def q_nilCheck {ρ : Type} (P : Program) (nid : Nat) (mv : Operand → MV) (h : List (Nat × LObj)) (x : Operand) (y : MEff → Option ρ) : Option ρ :=
  match mv x with
  | .ptr id off=>y { v:=.ptr id off }
  | .fn f cs=>y { v:=.fn f cs }
  | .bnd f cs=>y { v:=.bnd f cs }
  | .yld id=>y { v:=.yld id }
  | _=>none
noncomputable def q_binOp0 {ρ : Type} (P : Program) (nid : Nat) (mv : Operand → MV) (h : List (Nat × LObj)) (op : BinOp) (t : TypeId) (x z : Operand) (y : MEff → Option ρ) : Option ρ :=
  if Go.Ev.isNilC z then
   match P.underlying t,op,mv x with
   | some (.slice _),.eql,.slz=>y { v:=.bool true }
   | some (.slice _),.neq,.slz=>y { v:=.bool false }
   | some (.slice _),.eql,.slc ..=>y { v:=.bool false }
   | some (.slice _),.neq,.slc ..=>y { v:=.bool true }
   | _,_,_=>none
  else match nilM P t (mv x) z with
   | some b=>(match op with
    | .eql=>y { v:=.bool b }
    | .neq=>y { v:=.bool !b }
    | _=>none)
   | none=>binQ P op t (mv x) (mv z) fun m=>y { v:=m }
noncomputable def q_binOp {ρ : Type} (P : Program) (nid : Nat) (mv : Operand → MV) (h : List (Nat × LObj)) (op : BinOp) (t : TypeId) (x z : Operand) (yt : TypeId) (y : MEff → Option ρ) : Option ρ :=
 match mv x,mv z with
 | .int k a,.int k' b=>binK op k k' a b fun m=>y { v:=m }
 | .str a,.str b=>binT op a b fun m=>y { v:=m }
 | _,_=>q_binOp0 P nid mv h op t x z y
noncomputable def q_unOp {ρ : Type} (P : Program) (nid : Nat) (mv : Operand → MV) (h : List (Nat × LObj)) (op : UnOp) (t : TypeId) (x : Operand) (y : MEff → Option ρ) : Option ρ :=
  match op,mv x with
  | .neg,.int kk n=>y { v:=.int kk (wrapQ kk (0 - n)) }
  | .not,.bool b=>y { v:=.bool !b }
  | .xor,.int kk n=>y { v:=.int kk (kk.wrap (BitVec.ofInt kk.bits (if kk.signed then -1 else kk.max) ^^^ BitVec.ofInt kk.bits n).toNat) }
  | _,_=>none
noncomputable def q_convert {ρ : Type} (P : Program) (nid : Nat) (mv : Operand → MV) (h : List (Nat × LObj)) (src dst : TypeId) (x : Operand) (y : MEff → Option ρ) : Option ρ :=
  match P.underlying src,P.underlying dst,mv x with
  | some (.int _),some (.int kk),.int _ n=>y { v:=.int kk (wrapQ kk n) }
  | some .string,some .string,.str s=>y { v:=.str s }
  | some .string,some (.slice e),.str s =>
   if Go.Ev.byteT P e && (elemM P e && Nat.beq (P.cellsOf e) 1) then
    (if lenBQ (lenQ s) then y { v:=.slc nid 0 (lenQ s) (lenQ s) 1,sets:=[(nid,some (.cells false (bytesM s)))] } else none)
   else none
  | some (.slice e),some .string,.slz=>if Go.Ev.byteT P e then y { v:=.str [] } else none
  | some (.slice e),some .string,.slc id off len cap wd =>
   if Go.Ev.byteT P e && Nat.beq wd 1 then
    match elemsQ h 1 (.slc id off len cap wd) with
    | some q=>match strM q.1 with
     | some s=>y { v:=.str s,reads:=q.2 }
     | none=>none
    | none=>none
   else none
  | some (.slice e),some (.slice _),.slc id off len cap wd =>
   if Nat.beq src dst && Go.Ev.byteT P e then
    match get h id with
    | some (.cells frz cs)=>y { v:=.slc id off len cap wd,reads:=[id],sets:=[(id,some (.cells frz cs))] }
    | _=>none
   else none
  | _,_,_=>none
noncomputable def q_makeFunc {ρ : Type} (P : Program) (nid : Nat) (mv : Operand → MV) (h : List (Nat × LObj)) (fn : Fn) (first captured : Array Operand) (y : MEff → Option ρ) : Option ρ :=
 match fn with
 | .func f =>
  if first.size = 0 then y { v:=.fn f (mvs mv captured.toList) } else if captured.size = 0 then y { v:=.bnd f (mvs mv first.toList) } else none
 | _=>none
noncomputable def q_makeMap {ρ : Type} (P : Program) (nid : Nat) (mv : Operand → MV) (h : List (Nat × LObj)) (t : TypeId) (r : Option Operand) (y : MEff → Option ρ) : Option ρ :=
  match r with
  | none=>y { v:=.mp nid,sets:=[(nid,some (.map [] 0))] }
  | some _=>none
noncomputable def q_makeSlice {ρ : Type} (P : Program) (nid : Nat) (mv : Operand → MV) (h : List (Nat × LObj)) (t : TypeId) (l c : Operand) (y : MEff → Option ρ) : Option ρ :=
  match P.underlying t,mv l,mv c with
  | some (.slice e),.int .i64 n,.int .i64 m =>
   if elemM P e && (decide (n ≤ m) && (decide (0 ≤ n) && (decide (m ≤ 100000) && roomB m.toNat (P.bytesOf e)))) then
    match zerosM P e m.toNat with
    | some z=>y { v:=.slc nid 0 n.toNat m.toNat (P.cellsOf e),sets:=[(nid,some (.cells false z))] }
    | none=>none
   else none
  | _,_,_=>none
noncomputable def q_slice {ρ : Type} (P : Program) (nid : Nat) (mv : Operand → MV) (h : List (Nat × LObj)) (t : TypeId) (x : Operand) (lo hi mx : Option Operand) (y : MEff → Option ρ) : Option ρ :=
  match P.underlying t,mv x with
  | some .string,.str s =>
   if mx.isNone then
    match bndM 0 (lo.map (mv)),bndM (lenQ s) (hi.map (mv)) with
    | some l,some n=>bif slbQ l n (lenQ s) then y { v:=.str (takeQ (n.toNat - l.toNat) (dropQ l.toNat s)) } else none
    | _,_=>none
   else none
  | some (.slice e),.slz =>
   match bndM 0 (lo.map (mv)),bndM 0 (hi.map (mv)),bndM 0 (mx.map (mv)) with
   | some l,some n,some m=>if (mx.isNone || hi.isSome) && ((l == 0) && ((n == 0) && ((m == 0) && (P.info? e).isSome))) then y { v:=.slz } else none
   | _,_,_=>none
  | some (.slice e),.slc id off len cap wd =>
   if !Nat.beq wd (P.cellsOf e) then none else
   match bndM 0 (lo.map (mv)),bndM len (hi.map (mv)),bndM cap (mx.map (mv)) with
   | some l,some n,some m=>if (mx.isNone || hi.isSome) && (decide (0 ≤ l) && (decide (l ≤ n) && (decide (n ≤ m) && decide (m ≤ cap)))) then
     y { v:=.slc id (off + l.toNat * wd) (n.toNat - l.toNat) (m.toNat - l.toNat) wd } else none
   | _,_,_=>none
  | some (.array k e),.ptr id off =>
   if Nat.beq (P.cellsOf e) 0 then none else
   match bndM 0 (lo.map (mv)),bndM k (hi.map (mv)),cellsAt h id with
   | some l,some n,some cs=>if Nat.ble k 1000000 && (mx.isNone && (decide (0 ≤ l) && (decide (l ≤ n) && (decide (n ≤ k) && Nat.ble (off + k * P.cellsOf e) (lenQ cs))))) then
     y { v:=.slc id (off + l.toNat * P.cellsOf e) (n.toNat - l.toNat) (k - l.toNat) (P.cellsOf e),reads:=[id] } else none
   | _,_,_=>none
  | _,_=>none
noncomputable def q_fieldAddr {ρ : Type} (P : Program) (nid : Nat) (mv : Operand → MV) (h : List (Nat × LObj)) (t : TypeId) (x : Operand) (f : Nat) (y : MEff → Option ρ) : Option ρ :=
  match fieldOf P t f with
  | some fl =>
   if P.cellsOf fl.type == 0 then none else
   match mv x with
   | .ptr id off=>y { v:=.ptr id (off + fl.offset) }
   | _=>none
  | none=>none
noncomputable def q_field {ρ : Type} (P : Program) (nid : Nat) (mv : Operand → MV) (h : List (Nat × LObj)) (t : TypeId) (x : Operand) (f : Nat) (y : MEff → Option ρ) : Option ρ :=
  match fieldOf P t f with
  | some fl =>
   match mv x with
   | .agg cs=>loadQ P fl.type (dropQ fl.offset cs) fun v=>y { v }
   | _=>none
  | none=>none
noncomputable def q_indexAddr {ρ : Type} (P : Program) (nid : Nat) (mv : Operand → MV) (h : List (Nat × LObj)) (t : TypeId) (x i : Operand) (y : MEff → Option ρ) : Option ρ :=
  match mv i with
  | .int _ n =>
   match P.underlying t,mv x with
   | some (.slice e),.slc id off len _ wd=>if Nat.beq wd (P.cellsOf e) && (P.info? e).isSome then (bif inbQ n len then y { v:=.ptr id (off + n.toNat * wd) } else none) else none
   | some (.array len e),.ptr id off=>if (P.info? e).isSome then (bif inbQ n len then y { v:=.ptr id (off + n.toNat * P.cellsOf e) } else none) else none
   | _,_=>none
  | _=>none
noncomputable def q_index {ρ : Type} (P : Program) (nid : Nat) (mv : Operand → MV) (h : List (Nat × LObj)) (t : TypeId) (x i : Operand) (y : MEff → Option ρ) : Option ρ :=
  match mv i with
  | .int _ n =>
   match P.underlying t,mv x with
   | some .string,.str s=>bif inbQ n (lenQ s) then y { v:=.int .u8 ((nthU n.toNat s).toNat) } else none
   | some (.array len e),.agg cs=>bif inbQ n len then loadQ P e (dropQ (n.toNat * P.cellsOf e) cs) fun v=>y { v } else none
   | _,_=>none
  | _=>none
noncomputable def q_lookup {ρ : Type} (P : Program) (nid : Nat) (mv : Operand → MV) (h : List (Nat × LObj)) (t : TypeId) (x k : Operand) (ok : Bool) (y : MEff → Option ρ) : Option ρ :=
  match P.underlying t with
  | some (.map kt et) =>
   if !keyOk P kt (mv k) then none else
   match mv x with
   | .mp id=>match get h id with
    | some (.map es _) =>
     match findM P kt (mv k) es 0,zeroV P et with
     | some (some q),_=>y { v:=bif ok then .tup [q.2.1,.bool true] else q.2.1,reads:=[id] }
     | some none,some z=>y { v:=bif ok then .tup [z,.bool false] else z,reads:=[id] }
     | _,_=>none
    | _=>none
   | _=>none
  | _=>none
noncomputable def q_mapUpdate {ρ : Type} (P : Program) (nid : Nat) (mv : Operand → MV) (h : List (Nat × LObj)) (t : TypeId) (m k x : Operand) (y : MEff → Option ρ) : Option ρ :=
  match P.underlying t with
  | some (.map kt _) =>
   if !keyOk P kt (mv k) then none else
   match mv m with
   | .mp id=>match get h id with
    | some (.map es c) =>
     match findM P kt (mv k) es 0 with
     | some (some q)=>y { v:=.undef,reads:=[id],sets:=[(id,some (.map (setVal es q.1 (mv x)) c))] }
     | some none=>y { v:=.undef,reads:=[id],sets:=[(id,some (.map (es ++ [(mv k,mv x,c)]) (c + 1)))] }
     | none=>none
    | _=>none
   | _=>none
  | _=>none
noncomputable def q_mapEntry {ρ : Type} (P : Program) (nid : Nat) (mv : Operand → MV) (h : List (Nat × LObj)) (t : TypeId) (m k : Operand) (y : MEff → Option ρ) : Option ρ :=
  match P.underlying t with
  | some (.map kt et) =>
   if !keyOk P kt (mv k) then none else
   match mv m with
   | .mp id=>match get h id with
    | some (.map es c) =>
     match findM P kt (mv k) es 0,zeroV P et with
     | some (some q),_=>y { v:=.tup [q.2.1,.int .i64 q.2.2],reads:=[id],sets:=[(id,some (.map es c))] }
     | some none,some z=>y { v:=.tup [z,.int .i64 c],reads:=[id],sets:=[(id,some (.map (es ++ [(mv k,z,c)]) (c + 1)))] }
     | _,_=>none
    | _=>none
   | _=>none
  | _=>none
noncomputable def q_entryStore {ρ : Type} (P : Program) (nid : Nat) (mv : Operand → MV) (h : List (Nat × LObj)) (t : TypeId) (m s x : Operand) (y : MEff → Option ρ) : Option ρ :=
  match mv m,mv s with
  | .mp id,.int _ b=>match get h id with
   | some (.map es c) =>
    match findBorn b es 0 with
    | some i=>y { v:=.undef,reads:=[id],sets:=[(id,some (.map (setVal es i (mv x)) c))] }
    | none=>none
   | _=>none
  | _,_=>none
noncomputable def q_range {ρ : Type} (P : Program) (nid : Nat) (mv : Operand → MV) (h : List (Nat × LObj)) (t : TypeId) (x : Operand) (y : MEff → Option ρ) : Option ρ :=
  match P.underlying t,mv x with
  | some .string,.str s=>y { v:=.it nid,sets:=[(nid,some (.iter s 0))] }
  | _,_=>none
noncomputable def q_next {ρ : Type} (P : Program) (nid : Nat) (mv : Operand → MV) (h : List (Nat × LObj)) (x : Operand) (isStr : Bool) (y : MEff → Option ρ) : Option ρ :=
 match isStr with
 | true =>
  match mv x with
  | .it id=>match get h id with
   | some (.iter s p) =>
    bif Nat.blt p (lenQ s) then y { v:=.tup [.bool true,.int .i64 p,.int .i32 (decQ s p).1],reads:=[id],sets:=[(id,some (.iter s (p + (decQ s p).2)))] }
    else y { v:=.tup [.bool false],reads:=[id] }
   | _=>none
  | _=>none
 | false=>none
noncomputable def q_extract {ρ : Type} (P : Program) (nid : Nat) (mv : Operand → MV) (h : List (Nat × LObj)) (x : Operand) (i : Nat) (y : MEff → Option ρ) : Option ρ :=
  match mv x with
  | .tup vs=>match vs[i]? with
   | some v=>y { v }
   | none=>none
  | _=>none
noncomputable def q_call {ρ : Type} (P : Program) (nid : Nat) (mv : Operand → MV) (h : List (Nat × LObj)) (c : Call) (y : MEff → Option ρ) : Option ρ :=
 match c with
 | { callee:=.builtin b,args,argTypes }=>builtinQ P nid b argTypes.toList (mvs mv args.toList) h y
 | _=>none
noncomputable def evOpQ {ρ : Type} (P : Program) (nid : Nat) (o : Op) (mv : Operand → MV) (h : List (Nat × LObj)) (y : MEff → Option ρ) : Option ρ :=
 @Op.rec (fun _=>Option ρ) (fun x=>q_move P nid mv h x y)
  (fun x=>q_assign P nid mv h x y)
  (fun c a b=>q_pick P nid mv h c a b y)
  (fun t=>q_alloc P nid mv h t y)
  (fun t x=>q_box P nid mv h t x y)
  (fun t parts=>q_build P nid mv h t parts y)
  (fun t len parts=>q_buildSlice P nid mv h t len parts y)
  (fun _ _ _ _=>none)
  (fun t a=>q_load P nid mv h t a y)
  (fun t a x=>q_store P nid mv h t a x y)
  (fun _=>none)
  (fun _=>none)
  (fun x=>q_nilCheck P nid mv h x y)
  (fun op t x z yt=>q_binOp P nid mv h op t x z yt y)
  (fun op t x=>q_unOp P nid mv h op t x y)
  (fun src dst x=>q_convert P nid mv h src dst x y)
  (fun _ _=>none)
  (fun _ _=>none)
  (fun fn first captured=>q_makeFunc P nid mv h fn first captured y)
  (fun t r=>q_makeMap P nid mv h t r y)
  (fun _ _=>none)
  (fun t l c=>q_makeSlice P nid mv h t l c y)
  (fun t x lo hi mx=>q_slice P nid mv h t x lo hi mx y)
  (fun t x f=>q_fieldAddr P nid mv h t x f y)
  (fun t x f=>q_field P nid mv h t x f y)
  (fun t x i=>q_indexAddr P nid mv h t x i y)
  (fun t x i=>q_index P nid mv h t x i y)
  (fun t x k ok=>q_lookup P nid mv h t x k ok y)
  (fun t m k x=>q_mapUpdate P nid mv h t m k x y)
  (fun t m k=>q_mapEntry P nid mv h t m k y)
  (fun t m s x=>q_entryStore P nid mv h t m s x y)
  (fun t x=>q_range P nid mv h t x y)
  (fun x isStr=>q_next P nid mv h x isStr y)
  (fun _=>none)
  (fun _ _ _ _=>none)
  (fun x i=>q_extract P nid mv h x i y)
  (fun c=>q_call P nid mv h c y)
  (fun _=>none)
  (fun _=>none)
  (fun _=>none)
  (fun _ _=>none)
  (fun _ _ _=>none)
  (fun _ _=>none) o
theorem evOpQ_eq {ρ : Type} (P : Program) (nid : Nat) (o : Oper) (tm : List MV) (h : List (Nat × LObj)) (y : MEff → Option ρ) : evOpQ P nid o.op (mval tm) h y = evOp P nid o tm h y:=by
 cases ho : o.op with
 | move x=>simp only [evOp,ho] <;> show q_move P nid (mval tm) h x y = _;simp only [q_move,takeQ_eq,dropQ_eq,lenQ_eq,appQ_eq,spliceQ_eq,fillQ_eq,loadQ_eq,elemsQ_eq,srcQ_eq,builtinQ_eq,nthU_eq,inbQ_eq,slbQ_eq,lenBQ_eq,decQ_eq,wrapQ_eq,binQ_eq,mvs_eq] <;> rfl
 | assign x=>simp only [evOp,ho] <;> show q_assign P nid (mval tm) h x y = _;simp only [q_assign,takeQ_eq,dropQ_eq,lenQ_eq,appQ_eq,spliceQ_eq,fillQ_eq,loadQ_eq,elemsQ_eq,srcQ_eq,builtinQ_eq,nthU_eq,inbQ_eq,slbQ_eq,lenBQ_eq,decQ_eq,wrapQ_eq,binQ_eq,mvs_eq] <;> rfl
 | pick c a b=>simp only [evOp,ho] <;> show q_pick P nid (mval tm) h c a b y = _;simp only [q_pick,takeQ_eq,dropQ_eq,lenQ_eq,appQ_eq,spliceQ_eq,fillQ_eq,loadQ_eq,elemsQ_eq,srcQ_eq,builtinQ_eq,nthU_eq,inbQ_eq,slbQ_eq,lenBQ_eq,decQ_eq,wrapQ_eq,binQ_eq,mvs_eq] <;> rfl
 | alloc t=>simp only [evOp,ho] <;> show q_alloc P nid (mval tm) h t y = _;simp only [q_alloc,takeQ_eq,dropQ_eq,lenQ_eq,appQ_eq,spliceQ_eq,fillQ_eq,loadQ_eq,elemsQ_eq,srcQ_eq,builtinQ_eq,nthU_eq,inbQ_eq,slbQ_eq,lenBQ_eq,decQ_eq,wrapQ_eq,binQ_eq,mvs_eq] <;> rfl
 | box t x=>simp only [evOp,ho] <;> show q_box P nid (mval tm) h t x y = _;simp only [q_box,takeQ_eq,dropQ_eq,lenQ_eq,appQ_eq,spliceQ_eq,fillQ_eq,loadQ_eq,elemsQ_eq,srcQ_eq,builtinQ_eq,nthU_eq,inbQ_eq,slbQ_eq,lenBQ_eq,decQ_eq,wrapQ_eq,binQ_eq,mvs_eq] <;> rfl
 | build t parts=>simp only [evOp,ho] <;> show q_build P nid (mval tm) h t parts y = _;simp only [q_build,takeQ_eq,dropQ_eq,lenQ_eq,appQ_eq,spliceQ_eq,fillQ_eq,loadQ_eq,elemsQ_eq,srcQ_eq,builtinQ_eq,nthU_eq,inbQ_eq,slbQ_eq,lenBQ_eq,decQ_eq,wrapQ_eq,binQ_eq,mvs_eq] <;> rfl
 | buildSlice t len parts=>simp only [evOp,ho] <;> show q_buildSlice P nid (mval tm) h t len parts y = _;simp only [q_buildSlice,takeQ_eq,dropQ_eq,lenQ_eq,appQ_eq,spliceQ_eq,fillQ_eq,loadQ_eq,elemsQ_eq,srcQ_eq,builtinQ_eq,nthU_eq,inbQ_eq,slbQ_eq,lenBQ_eq,decQ_eq,wrapQ_eq,binQ_eq,mvs_eq] <;> rfl
 | load t a=>simp only [evOp,ho] <;> show q_load P nid (mval tm) h t a y = _;simp only [q_load,takeQ_eq,dropQ_eq,lenQ_eq,appQ_eq,spliceQ_eq,fillQ_eq,loadQ_eq,elemsQ_eq,srcQ_eq,builtinQ_eq,nthU_eq,inbQ_eq,slbQ_eq,lenBQ_eq,decQ_eq,wrapQ_eq,binQ_eq,mvs_eq] <;> rfl
 | store t a x=>simp only [evOp,ho] <;> show q_store P nid (mval tm) h t a x y = _;simp only [q_store,takeQ_eq,dropQ_eq,lenQ_eq,appQ_eq,spliceQ_eq,fillQ_eq,loadQ_eq,elemsQ_eq,srcQ_eq,builtinQ_eq,nthU_eq,inbQ_eq,slbQ_eq,lenBQ_eq,decQ_eq,wrapQ_eq,binQ_eq,mvs_eq] <;> rfl
 | nilCheck x=>simp only [evOp,ho] <;> show q_nilCheck P nid (mval tm) h x y = _;simp only [q_nilCheck,takeQ_eq,dropQ_eq,lenQ_eq,appQ_eq,spliceQ_eq,fillQ_eq,loadQ_eq,elemsQ_eq,srcQ_eq,builtinQ_eq,nthU_eq,inbQ_eq,slbQ_eq,lenBQ_eq,decQ_eq,wrapQ_eq,binQ_eq,mvs_eq] <;> rfl
 | binOp op t x z yt =>
  have e0 : q_binOp0 P nid (mval tm) h op t x z y = evOp P nid o tm h y:=by simp only [evOp,ho];simp only [q_binOp0,binQ_eq] <;> rfl
  rw [← e0]
  show q_binOp P nid (mval tm) h op t x z yt y = _
  unfold q_binOp
  split
  ·rename_i k a k' b hx hz
   unfold q_binOp0
   cases hc : Go.Ev.isNilC z with
   | true=>rw [bin_nilC hc tm] at hz;cases hz
   | false =>
    simp only [hx,nilM_int,hz,Bool.false_eq_true,if_false]
    rw [binQ_eq,← binK_eq]
  ·rename_i a b hx hz
   unfold q_binOp0
   cases hc : Go.Ev.isNilC z with
   | true=>rw [bin_nilC hc tm] at hz;cases hz
   | false =>
    simp only [hx,nilM_str,hz,Bool.false_eq_true,if_false]
    rfl
  ·rfl
 | unOp op t x=>simp only [evOp,ho] <;> show q_unOp P nid (mval tm) h op t x y = _;simp only [q_unOp,takeQ_eq,dropQ_eq,lenQ_eq,appQ_eq,spliceQ_eq,fillQ_eq,loadQ_eq,elemsQ_eq,srcQ_eq,builtinQ_eq,nthU_eq,inbQ_eq,slbQ_eq,lenBQ_eq,decQ_eq,wrapQ_eq,binQ_eq,mvs_eq] <;> rfl
 | convert src dst x=>simp only [evOp,ho] <;> show q_convert P nid (mval tm) h src dst x y = _;simp only [q_convert,takeQ_eq,dropQ_eq,lenQ_eq,appQ_eq,spliceQ_eq,fillQ_eq,loadQ_eq,elemsQ_eq,srcQ_eq,builtinQ_eq,nthU_eq,inbQ_eq,slbQ_eq,lenBQ_eq,decQ_eq,wrapQ_eq,binQ_eq,mvs_eq] <;> rfl
 | makeFunc fn a b=>cases fn with
  | func f=>simp only [evOp,ho];show q_makeFunc P nid (mval tm) h (.func f) a b y = _;simp only [q_makeFunc,mvs_eq]
  | _=>simp only [evOp,ho] <;> rfl
 | makeMap t r=>simp only [evOp,ho] <;> show q_makeMap P nid (mval tm) h t r y = _;simp only [q_makeMap,takeQ_eq,dropQ_eq,lenQ_eq,appQ_eq,spliceQ_eq,fillQ_eq,loadQ_eq,elemsQ_eq,srcQ_eq,builtinQ_eq,nthU_eq,inbQ_eq,slbQ_eq,lenBQ_eq,decQ_eq,wrapQ_eq,binQ_eq,mvs_eq] <;> rfl
 | makeSlice t l c=>simp only [evOp,ho] <;> show q_makeSlice P nid (mval tm) h t l c y = _;simp only [q_makeSlice,takeQ_eq,dropQ_eq,lenQ_eq,appQ_eq,spliceQ_eq,fillQ_eq,loadQ_eq,elemsQ_eq,srcQ_eq,builtinQ_eq,nthU_eq,inbQ_eq,slbQ_eq,lenBQ_eq,decQ_eq,wrapQ_eq,binQ_eq,mvs_eq] <;> rfl
 | slice t x lo hi mx=>simp only [evOp,ho] <;> show q_slice P nid (mval tm) h t x lo hi mx y = _;simp only [q_slice,takeQ_eq,dropQ_eq,lenQ_eq,appQ_eq,spliceQ_eq,fillQ_eq,loadQ_eq,elemsQ_eq,srcQ_eq,builtinQ_eq,nthU_eq,inbQ_eq,slbQ_eq,lenBQ_eq,decQ_eq,wrapQ_eq,binQ_eq,mvs_eq] <;> rfl
 | fieldAddr t x f=>simp only [evOp,ho] <;> show q_fieldAddr P nid (mval tm) h t x f y = _;simp only [q_fieldAddr,takeQ_eq,dropQ_eq,lenQ_eq,appQ_eq,spliceQ_eq,fillQ_eq,loadQ_eq,elemsQ_eq,srcQ_eq,builtinQ_eq,nthU_eq,inbQ_eq,slbQ_eq,lenBQ_eq,decQ_eq,wrapQ_eq,binQ_eq,mvs_eq] <;> rfl
 | field t x f=>simp only [evOp,ho] <;> show q_field P nid (mval tm) h t x f y = _;simp only [q_field,takeQ_eq,dropQ_eq,lenQ_eq,appQ_eq,spliceQ_eq,fillQ_eq,loadQ_eq,elemsQ_eq,srcQ_eq,builtinQ_eq,nthU_eq,inbQ_eq,slbQ_eq,lenBQ_eq,decQ_eq,wrapQ_eq,binQ_eq,mvs_eq] <;> rfl
 | indexAddr t x i=>simp only [evOp,ho] <;> show q_indexAddr P nid (mval tm) h t x i y = _;simp only [q_indexAddr,takeQ_eq,dropQ_eq,lenQ_eq,appQ_eq,spliceQ_eq,fillQ_eq,loadQ_eq,elemsQ_eq,srcQ_eq,builtinQ_eq,nthU_eq,inbQ_eq,slbQ_eq,lenBQ_eq,decQ_eq,wrapQ_eq,binQ_eq,mvs_eq] <;> rfl
 | index t x i=>simp only [evOp,ho] <;> show q_index P nid (mval tm) h t x i y = _;simp only [q_index,takeQ_eq,dropQ_eq,lenQ_eq,appQ_eq,spliceQ_eq,fillQ_eq,loadQ_eq,elemsQ_eq,srcQ_eq,builtinQ_eq,nthU_eq,inbQ_eq,slbQ_eq,lenBQ_eq,decQ_eq,wrapQ_eq,binQ_eq,mvs_eq] <;> rfl
 | lookup t x k ok=>simp only [evOp,ho] <;> show q_lookup P nid (mval tm) h t x k ok y = _;simp only [q_lookup,takeQ_eq,dropQ_eq,lenQ_eq,appQ_eq,spliceQ_eq,fillQ_eq,loadQ_eq,elemsQ_eq,srcQ_eq,builtinQ_eq,nthU_eq,inbQ_eq,slbQ_eq,lenBQ_eq,decQ_eq,wrapQ_eq,binQ_eq,mvs_eq] <;> rfl
 | mapUpdate t m k x=>simp only [evOp,ho] <;> show q_mapUpdate P nid (mval tm) h t m k x y = _;simp only [q_mapUpdate,takeQ_eq,dropQ_eq,lenQ_eq,appQ_eq,spliceQ_eq,fillQ_eq,loadQ_eq,elemsQ_eq,srcQ_eq,builtinQ_eq,nthU_eq,inbQ_eq,slbQ_eq,lenBQ_eq,decQ_eq,wrapQ_eq,binQ_eq,mvs_eq] <;> rfl
 | mapEntry t m k=>simp only [evOp,ho] <;> show q_mapEntry P nid (mval tm) h t m k y = _;simp only [q_mapEntry,takeQ_eq,dropQ_eq,lenQ_eq,appQ_eq,spliceQ_eq,fillQ_eq,loadQ_eq,elemsQ_eq,srcQ_eq,builtinQ_eq,nthU_eq,inbQ_eq,slbQ_eq,lenBQ_eq,decQ_eq,wrapQ_eq,binQ_eq,mvs_eq] <;> rfl
 | entryStore t m s x=>simp only [evOp,ho] <;> show q_entryStore P nid (mval tm) h t m s x y = _;simp only [q_entryStore,takeQ_eq,dropQ_eq,lenQ_eq,appQ_eq,spliceQ_eq,fillQ_eq,loadQ_eq,elemsQ_eq,srcQ_eq,builtinQ_eq,nthU_eq,inbQ_eq,slbQ_eq,lenBQ_eq,decQ_eq,wrapQ_eq,binQ_eq,mvs_eq] <;> rfl
 | range t x=>simp only [evOp,ho] <;> show q_range P nid (mval tm) h t x y = _;simp only [q_range,takeQ_eq,dropQ_eq,lenQ_eq,appQ_eq,spliceQ_eq,fillQ_eq,loadQ_eq,elemsQ_eq,srcQ_eq,builtinQ_eq,nthU_eq,inbQ_eq,slbQ_eq,lenBQ_eq,decQ_eq,wrapQ_eq,binQ_eq,mvs_eq] <;> rfl
 | next x b=>cases b <;> simp only [evOp,ho] <;> first | rfl | (show q_next P nid (mval tm) h x true y = _;simp only [q_next,takeQ_eq,dropQ_eq,lenQ_eq,appQ_eq,spliceQ_eq,fillQ_eq,loadQ_eq,elemsQ_eq,srcQ_eq,builtinQ_eq,nthU_eq,inbQ_eq,slbQ_eq,lenBQ_eq,decQ_eq,wrapQ_eq,binQ_eq,mvs_eq] <;> rfl)
 | extract x i=>simp only [evOp,ho] <;> show q_extract P nid (mval tm) h x i y = _;simp only [q_extract,takeQ_eq,dropQ_eq,lenQ_eq,appQ_eq,spliceQ_eq,fillQ_eq,loadQ_eq,elemsQ_eq,srcQ_eq,builtinQ_eq,nthU_eq,inbQ_eq,slbQ_eq,lenBQ_eq,decQ_eq,wrapQ_eq,binQ_eq,mvs_eq] <;> rfl
 | call c =>
  obtain ⟨cl,args,ts⟩:=c
  cases cl with
  | builtin b=>simp only [evOp,ho];show q_call P nid (mval tm) h ⟨.builtin b,args,ts⟩ y = _;simp only [q_call,builtinQ_eq,mvs_eq] <;> rfl
  | _=>simp only [evOp,ho] <;> rfl
 | _=>simp only [evOp,ho] <;> rfl
noncomputable def callOf (o : Op) : Option (Operand × Array Operand) :=
 @Op.rec (fun _=>Option (Operand × Array Operand)) (fun _=>none) (fun _=>none) (fun _ _ _=>none) (fun _=>none) (fun _ _=>none) (fun _ _=>none) (fun _ _ _=>none) (fun _ _ _ _=>none) (fun _ _=>none) (fun _ _ _=>none) (fun _=>none) (fun _=>none) (fun _=>none) (fun _ _ _ _ _=>none) (fun _ _ _=>none) (fun _ _ _=>none) (fun _ _=>none) (fun _ _=>none) (fun _ _ _=>none) (fun _ _=>none) (fun _ _=>none) (fun _ _ _=>none) (fun _ _ _ _ _=>none) (fun _ _ _=>none) (fun _ _ _=>none) (fun _ _ _=>none) (fun _ _ _=>none) (fun _ _ _ _=>none) (fun _ _ _ _=>none) (fun _ _ _=>none) (fun _ _ _ _=>none) (fun _ _=>none) (fun _ _=>none) (fun _=>none) (fun _ _ _ _=>none) (fun _ _=>none) (fun c=>match c with | { callee:=.value f,args,argTypes:=_ }=>some (f,args) | _=>none) (fun _=>none) (fun _=>none) (fun _=>none) (fun _ _=>none) (fun _ _ _=>none) (fun _ _=>none) o
end Go.Mi


namespace Go.Mi
open Go.Ev (AV Sh Summ Env Ex find entersB ancTab)
noncomputable def delK {ρ : Type} (h : List (Nat × LObj)) (id : Nat) (k : List (Nat × LObj) → Option ρ) : Option ρ :=
 @List.rec (Nat × LObj) (fun _=>(List (Nat × LObj) → Option ρ) → Option ρ) (fun k=>k []) (fun a h ih k=>bif Nat.beq a.1 id then k h else ih fun h'=>k (a :: h')) h k
noncomputable def putK {ρ : Type} (v : MV) (l : List MV) (n : Nat) (k : List MV → Option ρ) : Option ρ :=
 @List.rec MV (fun _=>Nat → (List MV → Option ρ) → Option ρ) (fun _ k=>k []) (fun a l ih n k=>@Nat.rec (fun _=>Option ρ) (k (v :: l)) (fun m _=>ih m fun l'=>k (a :: l')) n) l n k
noncomputable def dstK {ρ : Type} (v : MV) (l : List MV) (d : Option Tmp) (k : List MV → Option ρ) : Option ρ :=
 match d with
 | some n=>putK v l n k
 | none=>k l
noncomputable def listK {ρ : Type} (l : List MV) (k : List MV → Option ρ) : Option ρ :=
 @List.rec MV (fun _=>(List MV → Option ρ) → Option ρ) (fun k=>k []) (fun a _ ih k=>ih fun l'=>k (a :: l')) l k
noncomputable def natK {ρ : Type} (n : Nat) (k : Nat → Option ρ) : Option ρ:=@Nat.rec (fun _=>Option ρ) (k 0) (fun m _=>k (Nat.succ m)) n
noncomputable def intK {ρ : Type} (n : Int) (k : Int → Option ρ) : Option ρ :=
 match n with
 | .ofNat m=>natK m fun m=>k (.ofNat m)
 | .negSucc m=>natK m fun m=>k (.negSucc m)
noncomputable def byteK {ρ : Type} (b : UInt8) (k : UInt8 → Option ρ) : Option ρ :=
 @UInt8.rec (fun _=>Option ρ) (fun v=>@BitVec.rec 8 (fun _=>Option ρ) (fun f=>@Fin.rec _ (fun _=>Option ρ) (fun n h=>k ⟨⟨⟨n,h⟩⟩⟩) f) v) b
noncomputable def textK {ρ : Type} (s : List UInt8) (k : List UInt8 → Option ρ) : Option ρ :=
 @List.rec UInt8 (fun _=>(List UInt8 → Option ρ) → Option ρ) (fun k=>k []) (fun a _ ih k=>byteK a fun a=>ih fun l=>k (a :: l)) s k
noncomputable def force1 {ρ : Type} (v : MV) (k : MV → Option ρ) : Option ρ :=
 match v with
 | .str s=>textK s fun s=>k (.str s)
 | .int kk n=>intK n fun n=>k (.int kk n)
 | .bool b=>bif b then k (.bool true) else k (.bool false)
 | .ptr id off=>natK id fun id=>natK off fun off=>k (.ptr id off)
 | .slc id off len cap wd=>natK id fun id=>natK off fun off=>natK len fun len=>natK cap fun cap=>natK wd fun wd=>k (.slc id off len cap wd)
 | v=>k v
noncomputable def cellsK {ρ : Type} (l : List MV) (k : List MV → Option ρ) : Option ρ :=
 @List.rec MV (fun _=>(List MV → Option ρ) → Option ρ) (fun k=>k []) (fun a _ ih k=>force1 a fun a=>ih fun l'=>k (a :: l')) l k
noncomputable def force2 {ρ : Type} (v : MV) (k : MV → Option ρ) : Option ρ :=
 match v with
 | .agg cs=>cellsK cs fun cs=>k (.agg cs)
 | v=>force1 v k
noncomputable def tupK {ρ : Type} (l : List MV) (k : List MV → Option ρ) : Option ρ :=
 @List.rec MV (fun _=>(List MV → Option ρ) → Option ρ) (fun k=>k []) (fun a _ ih k=>force2 a fun a=>ih fun l'=>k (a :: l')) l k
noncomputable def forceK {ρ : Type} (v : MV) (k : MV → Option ρ) : Option ρ :=
 match v with
 | .tup cs=>tupK cs fun cs=>k (.tup cs)
 | v=>force2 v k
noncomputable def entsK {ρ : Type} (l : List (MV × MV × Nat)) (k : List (MV × MV × Nat) → Option ρ) : Option ρ :=
 @List.rec (MV × MV × Nat) (fun _=>(List (MV × MV × Nat) → Option ρ) → Option ρ) (fun k=>k []) (fun a _ ih k=>match a with
  | (x,y,n)=>forceK x fun x=>forceK y fun y=>natK n fun n=>ih fun l'=>k ((x,y,n) :: l')) l k
noncomputable def objK {ρ : Type} (o : LObj) (k : LObj → Option ρ) : Option ρ :=
 match o with
 | .cells f cs=>listK cs fun cs=>k (.cells f cs)
 | .map es c=>entsK es fun es=>natK c fun c=>k (.map es c)
 | .iter s p=>natK p fun p=>k (.iter s p)
 | o=>k o
noncomputable def newK {ρ : Type} (o : LObj) (k : LObj → Option ρ) : Option ρ :=
 match o with
 | .cells f cs=>cellsK cs fun cs=>k (.cells f cs)
 | o=>k o
noncomputable def setK {ρ : Type} (nid : Nat) (fr : Bool) (sets : List (Nat × Option LObj)) (h : List (Nat × LObj)) (k : List (Nat × LObj) → Option ρ) : Option ρ :=
 @List.rec (Nat × Option LObj) (fun _=>Bool → List (Nat × LObj) → Option ρ) (fun _ h=>k h) (fun a _ ih fr h=>match a with
  | (id,x)=>bif fr && Nat.beq id nid then (match x with
    | some o=>newK o fun o=>ih false ((nid,o) :: h)
    | none=>none)
   else delK h id fun h'=>match x with
    | some o=>objK o fun o=>ih fr ((id,o) :: h')
    | none=>ih fr h') sets fr h
abbrev CallT:=(ρ : Type) → Nat → List MV → List (Nat × LObj) → Nat → (MV → List (Nat × LObj) → Nat → Option ρ) → Option ρ
noncomputable def viewM (h : List (Nat × LObj)) : MV → AV
 | .slz=>.slz (.int .u8)
 | .slc id off len cap wd=>match elemsM h 1 (.slc id off len cap wd) with
  | some q=>if q.1.all (fun c=>match c with | .int .u8 _=>true | _=>false) then .slv (.int .u8) (MV.avs q.1) else if q.1.all (fun c=>match c with | .str _=>true | _=>false) then .slv .str (MV.avs q.1) else .unk
  | none=>.unk
 | v=>v.av
noncomputable def viewsM (h : List (Nat × LObj)) : List MV → List AV
 | []=>[]
 | v :: vs=>viewM h v :: viewsM h vs
noncomputable def callF {ρ : Type} (P : Program) (Γ : Env) (call : CallT) (g : Nat) (args : List MV) (h : List (Nat × LObj)) (nx : Nat) (k : MV → List (Nat × LObj) → Nat → Option ρ) : Option ρ :=
 if entersB P g then
  match find Γ g with
  | some F=>F ρ (viewsM h args) fun v=>match ofAV v with
   | some m=>k m h nx
   | none=>none
  | none=>call ρ g args h nx k
 else none
noncomputable def refsC (v : MV) : List Nat → List Nat :=
 @MV.rec (fun _=>List Nat → List Nat) (fun _=>List Nat → List Nat) (fun l=>l) (fun l=>l) (fun _ _ l=>l) (fun _ l=>l) (fun _ l=>l) (fun _ l=>l) (fun _ ih=>ih) (fun _ ih=>ih)
  (fun id _ l=>id :: l) (fun id _ _ _ _ l=>id :: l) (fun l=>l) (fun _ _ ih=>ih) (fun _ _ ih=>ih) (fun id l=>id :: l) (fun id l=>id :: l) (fun id l=>id :: l) (fun l=>l) (fun _ _ ih1 ih2 l=>ih1 (ih2 l)) v
noncomputable def refsL (cs : List MV) (l : List Nat) : List Nat :=
 @List.rec MV (fun _=>List Nat) l (fun c _ ih=>refsC c ih) cs
noncomputable def refsE (es : List (MV × MV × Nat)) (l : List Nat) : List Nat :=
 @List.rec (MV × MV × Nat) (fun _=>List Nat) l (fun c _ ih=>refsC c.1 (refsC c.2.1 ih)) es
noncomputable def refsO (o : LObj) (l : List Nat) : List Nat :=
 match o with
 | .cells _ cs=>refsL cs l
 | .map es _=>refsE es l
 | .iter _ _=>l
 | .loop _ tm _ _ _=>refsL tm l
noncomputable def pickK {ρ : Type} (h : List (Nat × LObj)) (id : Nat) (k : Option LObj → List (Nat × LObj) → Option ρ) : Option ρ :=
 @List.rec (Nat × LObj) (fun _=>(Option LObj → List (Nat × LObj) → Option ρ) → Option ρ) (fun k=>k none []) (fun a h ih k=>bif Nat.beq a.1 id then k (some a.2) h else ih fun x h'=>k x (a :: h')) h k
noncomputable def takeM {ρ : Type} : Nat → List Nat → List (Nat × LObj) → List (Nat × LObj) → (List (Nat × LObj) → List (Nat × LObj) → Option ρ) → Option ρ
 | 0,_,hr,rest,k=>k hr rest
 | _ + 1,[],hr,rest,k=>k hr rest
 | n + 1,id :: ws,hr,rest,k=>pickK rest id fun x rest'=>match x with
  | some o=>takeM n (refsO o ws) ((id,o) :: hr) rest' k
  | none=>takeM n ws hr rest' k
noncomputable def partK {ρ : Type} (nx : Nat) (h : List (Nat × LObj)) (k : List (Nat × LObj) → List (Nat × LObj) → Option ρ) : Option ρ :=
 @List.rec (Nat × LObj) (fun _=>(List (Nat × LObj) → List (Nat × LObj) → Option ρ) → Option ρ) (fun k=>k [] []) (fun a _ ih k=>ih fun x y=>bif Nat.blt a.1 nx then k (a :: x) y else k x (a :: y)) h k
noncomputable def rootsM (h : List (Nat × LObj)) (l : List Nat) : List Nat :=
 @List.rec (Nat × LObj) (fun _=>List Nat) l (fun a _ ih=>refsO a.2 ih) h
noncomputable def joinK {ρ : Type} (h h' : List (Nat × LObj)) (k : List (Nat × LObj) → Option ρ) : Option ρ :=
 @List.rec (Nat × LObj) (fun _=>(List (Nat × LObj) → Option ρ) → Option ρ) (fun k=>k h') (fun a _ ih k=>ih fun l=>k (a :: l)) h k
noncomputable def sweepK {ρ : Type} (nx : Nat) (v : MV) (h : List (Nat × LObj)) (k : List (Nat × LObj) → Option ρ) : Option ρ :=
 partK nx h fun old new=>match new with
  | []=>k old
  | a :: l=>takeM 3000 (refsC v (rootsM old [])) old (a :: l) fun h' _=>k h'
noncomputable def nearM (call : CallT) : CallT:=fun ρ g args h nx k =>
 takeM 3000 (refsL args []) [] h fun hr rest=>call ρ g args hr nx fun v h' nx'=>sweepK nx v h' fun h2=>joinK h2 rest fun h3=>k v h3 nx'
noncomputable def guardAt (ops : List Oper) (tm : List MV) (j : Nat) : MV :=
 match ops[j]? with
 | some o=>match o.dst with
  | some d=>nth tm d
  | none=>.unk
 | none=>.unk
def noRng : Code → Bool
 | .seq a b=>noRng a && noRng b
 | .cond _ a b=>noRng a && noRng b
 | .block _ b=>noRng b
 | .loop b=>noRng b
 | .rangeFunc ..=>false
 | _=>true
abbrev CodeT:=(ρ : Type) → Code → MSt → (Ex → MSt → Option ρ) → Option ρ
noncomputable def zipPut : List Tmp → List MV → List MV → List MV
 | p :: ps,v :: vs,tm=>zipPut ps vs (put v tm p)
 | _,_,tm=>tm
noncomputable def stepM {ρ : Type} (P : Program) (Γ : Env) (call : CallT) (round : CodeT) (nid : Nat) (o : Oper) (st : MSt) (k : MSt → Option ρ) : Option ρ :=
 match o.op with
 | .call { callee:=.value f,args,argTypes:=_ } =>
  match mval st.tm f with
  | .fn g caps=>callF P Γ call g (mvals st.tm args.toList ++ caps) st.h st.nx fun v h nx=>forceK v fun v=>dstK v st.tm o.dst fun tm=>k ⟨tm,h,nx⟩
  | .bnd g first=>callF P Γ call g (first ++ mvals st.tm args.toList) st.h st.nx fun v h nx=>forceK v fun v=>dstK v st.tm o.dst fun tm=>k ⟨tm,h,nx⟩
  | .yld id =>
   match get st.h id with
   | some (.loop false tm ps assign body) =>
    if Nat.beq args.size ps.size && (noRng assign && noRng body) then
     round ρ assign ⟨zipPut ps.toList (mvals st.tm args.toList) tm,st.h,st.nx⟩ fun e st1=>match e with
     | .normal=>(match get st1.h id with
      | some (.loop false tm' ps' assign' body')=>delK st1.h id fun h=>round ρ body ⟨st1.tm,(id,.loop true tm' ps' assign' body') :: h,st1.nx⟩ fun e st2=>match e with
       | .normal=>(match get st2.h id with
        | some (.loop true tm'' ps'' assign'' body'')=>delK st2.h id fun h=>dstK (.bool true) st.tm o.dst fun tm=>k ⟨tm,(id,.loop false tm'' ps'' assign'' body'') :: h,st2.nx⟩
        | _=>none)
       | _=>none
      | _=>none)
     | _=>none
    else none
   | _=>none
  | _=>none
 | _=>evOp P nid o st.tm st.h fun e=>forceK e.v fun v=>dstK v st.tm o.dst fun tm=>setK nid true e.sets st.h fun h=>k ⟨tm,h,st.nx⟩
structure Foot where
 reads : List Nat
 sets : List Nat
 call : Bool
noncomputable def memN (l : List Nat) (i : Nat) : Bool:=@List.rec Nat (fun _=>Bool) false (fun a _ ih=>bif Nat.beq a i then true else ih) l
noncomputable def noneN (l m : List Nat) : Bool:=@List.rec Nat (fun _=>Bool) true (fun a _ ih=>bif memN m a then false else ih) l
noncomputable def apartF (a b : Foot) : Bool:=bif a.call && b.call then false else bif noneN a.sets b.reads then (bif noneN a.sets b.sets then noneN b.sets a.reads else false) else false
noncomputable def memK (hr : List (Nat × LObj)) (id : Nat) : Bool:=@List.rec (Nat × LObj) (fun _=>Bool) false (fun a _ ih=>bif Nat.beq a.1 id then true else ih) hr
noncomputable def reachS : Nat → List Nat → List (Nat × LObj) → List (Nat × LObj) → Option (List (Nat × LObj))
 | 0,_,_,_=>none
 | _ + 1,[],acc,_=>some acc
 | n + 1,id :: ws,acc,h=>bif memK acc id then reachS n ws acc h else match get h id with
  | some o=>reachS n (refsO o ws) ((id,o) :: acc) h
  | none=>none
noncomputable def runC (P : Program) (Γ : Env) (call : CallT) (g : Nat) (args : List MV) (h : List (Nat × LObj)) (nx : Nat) : Option (MEff × Nat × Bool) :=
 if entersB P g then
  match find Γ g with
  | some F=>F (MEff × Nat × Bool) (MV.avs args) fun v=>match ofAV v with
   | some m=>some ({ v:=m },nx,false)
   | none=>none
  | none=>match reachS 3000 (refsL args []) [] h with
   | some hr=>match call (MV × List (Nat × LObj) × Nat) g args hr nx fun v h n=>some (v,h,n) with
    | some q=>some ({ v:=q.1,reads:=hr.map (·.1),sets:=hr.map (fun p=>(p.1,none)) ++ q.2.1.map fun p=>(p.1,some p.2) },q.2.2,true)
    | none=>none
   | none=>none
 else none
noncomputable def runE (P : Program) (Γ : Env) (call : CallT) (nid : Nat) (o : Oper) (tm : List MV) (h : List (Nat × LObj)) (nx : Nat) : Option (MEff × Nat × Bool) :=
 match o.op with
 | .call { callee:=.value f,args,argTypes:=_ } =>
  match mval tm f with
  | .fn g caps=>runC P Γ call g (mvals tm args.toList ++ caps) h nx
  | .bnd g first=>runC P Γ call g (first ++ mvals tm args.toList) h nx
  | _=>none
 | _=>match evOp P nid o tm h some with
  | some e=>some (e,nx,false)
  | none=>none
noncomputable def effM (P : Program) (Γ : Env) (call : CallT) (ops : List Oper) (nid : Nat) (o : Oper) (tm : List MV) (h : List (Nat × LObj)) (nx : Nat) : Option (MEff × Nat × Bool) :=
 match o.guard with
 | none=>runE P Γ call nid o tm h nx
 | some (j,want) =>
  match guardAt ops tm j with
  | .bool b=>bif b == want then runE P Γ call nid o tm h nx else some ({ v:=.undef },nx,false)
  | .undef=>some ({ v:=.undef },nx,false)
  | _=>none
def putD (l : List MV) (d : Option Tmp) (v : MV) : List MV :=
 match d with
 | some n=>l.set n v
 | none=>l
noncomputable def applyM (dst : Option Tmp) (e : MEff) (nx : Nat) (st : MSt) : MSt:=⟨putD st.tm dst e.v,e.sets.foldl set1 st.h,nx⟩
noncomputable def skipK {ρ : Type} (o : Oper) (st : MSt) (k : MSt → Option ρ) : Option ρ :=
 match st with
 | ⟨tm,h,nx⟩=>dstK .undef tm o.dst fun tm=>k ⟨tm,h,nx⟩
noncomputable def evOps {ρ : Type} (P : Program) (Γ : Env) (call : CallT) (round : CodeT) (base : Nat) (ops : List Oper) (k : MSt → Option ρ) : Nat → List Oper → MSt → Option ρ
 | _,[],st=>k st
 | i,o :: rest,st =>
  match o.guard with
  | none=>natK (base + i) fun nid=>stepM P Γ call round nid o st (evOps P Γ call round base ops k (i + 1) rest)
  | some (j,want) =>
   match guardAt ops st.tm j with
   | .bool b=>bif b == want then natK (base + i) fun nid=>stepM P Γ call round nid o st (evOps P Γ call round base ops k (i + 1) rest)
    else skipK o st (evOps P Γ call round base ops k (i + 1) rest)
   | .undef=>skipK o st (evOps P Γ call round base ops k (i + 1) rest)
   | _=>none
noncomputable def evDraw {ρ : Type} (P : Program) (Γ : Env) (call : CallT) (base : Nat) (ops : List Oper) (k : MSt → List Foot → Option ρ) : Nat → List Oper → MSt → List Foot → Option ρ
 | _,[],st,fs=>k st fs
 | i,o :: rest,st,fs =>
  match effM P Γ call ops (base + i) o st.tm st.h st.nx with
  | some q=>forceK q.1.v fun v=>dstK v st.tm o.dst fun tm=>setK 0 false q.1.sets st.h fun h=>natK q.2.1 fun n=>evDraw P Γ call base ops k (i + 1) rest ⟨tm,h,n⟩ (fs ++ [⟨q.1.reads,q.1.sets.map (·.1),q.2.2⟩])
  | none=>none
noncomputable def allF (p : Nat → Foot → Bool) (fs : List Foot) : Nat → Bool:=@List.rec Foot (fun _=>Nat → Bool) (fun _=>true) (fun f _ ih i=>bif p i f then ih (Nat.succ i) else false) fs
noncomputable def nthL (l : List (List Nat)) : Nat → List Nat:=@List.rec (List Nat) (fun _=>Nat → List Nat) (fun _=>[]) (fun a _ ih n=>@Nat.rec (fun _=>List Nat) a (fun m _=>ih m) n) l
noncomputable def ancQ (tab : List (List Nat)) (i j : Nat) : Bool:=bif Nat.blt i j then memN (nthL tab j) i else memN (nthL tab i) j
noncomputable def statOk (ops : Array Oper) : Bool :=
 (List.range ops.size).all fun j =>
  ((ops[j]?).map fun b=>b.after.all fun e=>!Region.binds .any e || Nat.blt e.on j).getD false &&
  (List.range j).all fun i=>memN (nthL (ancTab ops.toList) j) i || (match ops[i]?,ops[j]? with
   | some a,some b=>Oper.apart ops a b
   | _,_=>false)
noncomputable def dynOk (tab : List (List Nat)) (fs : List Foot) : Bool :=
 allF (fun j f=>bif f.sets.isEmpty && !f.call then true else allF (fun i g=>bif Nat.beq i j then true else bif ancQ tab i j then true else apartF f g) fs 0) fs 0
noncomputable def drawOk (ops : Array Oper) (fs : List Foot) : Bool:=bif statOk ops then (bif Nat.beq (lenQ fs) ops.size then dynOk (ancTab ops.toList) fs else false) else false
noncomputable def unrM (f : (ρ : Type) → MSt → (Ex → MSt → Option ρ) → Option ρ) : Nat → (ρ : Type) → MSt → (Ex → MSt → Option ρ) → Option ρ
 | 0,_,_,_=>none
 | n + 1,ρ,st,k=>f ρ st fun e st'=>match e with
  | .normal=>unrM f n ρ st' k
  | e=>k e st'
def ROUNDS : Nat:=3000
noncomputable def evC (P : Program) (Γ : Env) (call : CallT) (round : CodeT) : Code → (ρ : Type) → MSt → (Ex → MSt → Option ρ) → Option ρ
 | .skip,_,st,k=>k .normal st
 | .label _,_,st,k=>k .normal st
 | .region _ ops draw,_,st,k =>
  match st with
  | ⟨tm0,h0,nx0⟩ =>
  if draw then natK (nx0 + ops.size) fun nx=>evDraw P Γ call nx0 ops.toList (fun st' fs=>if drawOk ops fs then k .normal st' else none) 0 ops.toList ⟨tm0,h0,nx⟩ []
  else natK (nx0 + ops.size) fun nx=>evOps P Γ call round nx0 ops.toList (fun st'=>k .normal st') 0 ops.toList ⟨tm0,h0,nx⟩
 | .seq a b,ρ,st,k=>evC P Γ call round a ρ st fun e st'=>match e with
  | .normal=>evC P Γ call round b ρ st' k
  | e=>k e st'
 | .cond c a b,ρ,st,k =>
  match mval st.tm c with
  | .bool t=>bif t then evC P Γ call round a ρ st k else evC P Γ call round b ρ st k
  | _=>none
 | .block id b,ρ,st,k=>evC P Γ call round b ρ st fun e st'=>match e with
  | .exit i=>if i = id then k .normal st' else k (.exit i) st'
  | e=>k e st'
 | .loop b,ρ,st,k=>unrM (fun ρ st k=>evC P Γ call round b ρ st k) ROUNDS ρ st k
 | .exit id,_,st,k=>k (.exit id) st
 | .ret,_,st,k=>k .ret st
 | .rangeFunc g ps assign body,ρ,st,k =>
  match st with
  | ⟨tm0,h0,nx0⟩ =>
  match mval tm0 g with
  | .fn gf caps=>if entersB P gf && Go.Ev.hasBody P gf then natK (nx0 + 1) fun nx=>call ρ gf (.yld nx0 :: caps) ((nx0,.loop false tm0 ps assign body) :: h0) nx fun _ h nx=>match get h nx0 with
   | some (.loop false _ _ _ _)=>delK h nx0 fun h=>k .normal ⟨tm0,h,nx⟩
   | _=>none
   else none
  | _=>none
 | _,_,_,_=>none
section eqs
variable {ρ : Type} {P : Program} {Γ : Env} {call : CallT} {round : CodeT}
theorem skipK_eq (o : Oper) (st : MSt) (k : MSt → Option ρ) : skipK o st k = dstK .undef st.tm o.dst fun tm=>k ⟨tm,st.h,st.nx⟩:=by cases st;rfl
theorem evC_region (id : Nat) (ops : Array Oper) (draw : Bool) (st : MSt) (k : Ex → MSt → Option ρ) : evC P Γ call round (.region id ops draw) ρ st k =
  if draw then natK (st.nx + ops.size) fun nx=>evDraw P Γ call st.nx ops.toList (fun st' fs=>if drawOk ops fs then k .normal st' else none) 0 ops.toList ⟨st.tm,st.h,nx⟩ []
  else natK (st.nx + ops.size) fun nx=>evOps P Γ call round st.nx ops.toList (fun st'=>k .normal st') 0 ops.toList ⟨st.tm,st.h,nx⟩:=by cases st;rfl
theorem evC_range (g : Operand) (ps : Array Tmp) (assign body : Code) (st : MSt) (k : Ex → MSt → Option ρ) : evC P Γ call round (.rangeFunc g ps assign body) ρ st k =
  match mval st.tm g with
  | .fn gf caps=>if entersB P gf && Go.Ev.hasBody P gf then natK (st.nx + 1) fun nx=>call ρ gf (.yld st.nx :: caps) ((st.nx,.loop false st.tm ps assign body) :: st.h) nx fun _ h nx=>match get h st.nx with
   | some (.loop false _ _ _ _)=>delK h st.nx fun h=>k .normal ⟨st.tm,h,nx⟩
   | _=>none
   else none
  | _=>none:=by cases st;rfl
end eqs
noncomputable def resultM {ρ : Type} (P : Program) (st : MSt) (rv : ResultVar) (k : MV → Option ρ) : Option ρ :=
 match rv with
 | .tmp t=>k (nth st.tm t)
 | .cell t ty =>
  match nth st.tm t with
  | .ptr id off=>match cellsAt st.h id with
   | some cs=>loadM P ty (cs.drop off) k
   | none=>none
  | _=>none
noncomputable def resultsM {ρ : Type} (P : Program) (st : MSt) : List ResultVar → (List MV → Option ρ) → Option ρ
 | [],k=>k []
 | r :: rs,k=>resultM P st r fun v=>resultsM P st rs fun vs=>k (v :: vs)
def oneM : List MV → MV
 | [v]=>v
 | vs=>.tup vs
noncomputable def endM {ρ : Type} (P : Program) (fn : Func) (st : MSt) (k : MV → List (Nat × LObj) → Nat → Option ρ) : Option ρ :=
 match st with
 | ⟨tm,h,nx⟩=>resultsM P ⟨tm,h,nx⟩ fn.results.toList fun vs=>k (oneM vs) h nx
theorem endM_eq {ρ : Type} (P : Program) (fn : Func) (st : MSt) (k : MV → List (Nat × LObj) → Nat → Option ρ) : endM P fn st k = resultsM P st fn.results.toList fun vs=>k (oneM vs) st.h st.nx:=by cases st;rfl
noncomputable def bodyM (P : Program) (Γ : Env) (call : CallT) (round : CodeT) : CallT:=fun ρ g args h nx k =>
 match P.funcs[g]? with
 | some fn =>
  match fn.body with
  | some c=>evC P Γ call round c ρ ⟨args ++ List.replicate (fn.ntmps - args.length) .unk,h,nx⟩ fun e st=>match e with
   | .exit _=>none
   | _=>endM P fn st k
  | none=>none
 | none=>none
end Go.Mi


namespace Go.Mi
open Go.RowKit
open Go.Ev (AV Sh Summ Env Ex find entersB hasBody nilB VRel VRels Kept Glb Goes SumOK markD exOf semAt_of wp_value wp_skip')
def keys (h : List (Nat × LObj)) : List Nat:=h.map (·.1)
def del1 : List (Nat × LObj) → Nat → List (Nat × LObj)
 | [],_=>[]
 | a :: h,id=>if a.1 = id then h else a :: del1 h id
theorem beq_dec (a b : Nat) : Nat.beq a b = decide (a = b):=by
 by_cases e : a = b
 ·rw [e,Nat.beq_refl];simp
 ·have : Nat.beq a b = false:=by
   cases hb : Nat.beq a b
   ·rfl
   ·exact absurd (Nat.eq_of_beq_eq_true hb) e
  rw [this];simp [e]
theorem delK_eq {ρ : Type} : ∀ (h : List (Nat × LObj)) (id : Nat) (k : List (Nat × LObj) → Option ρ),delK h id k = k (del1 h id)
 | [],_,_=>rfl
 | a :: h,id,k=>by
  show (bif Nat.beq a.1 id then k h else delK h id fun h'=>k (a :: h')) = _
  rw [beq_dec,del1]
  by_cases e : a.1 = id
  ·simp [e]
  ·simp only [e,decide_false,cond_false,if_false]
   rw [delK_eq h id]
theorem get_key {h : List (Nat × LObj)} {id : Nat} (hn : id ∉ keys h) : get h id = none:=by
 induction h with
 | nil=>rfl
 | cons a h ih =>
  simp only [keys,List.map_cons,List.mem_cons,not_or] at hn
  rw [get_cons,if_neg (fun e=>hn.1 e.symm)]
  exact ih hn.2
theorem key_get {h : List (Nat × LObj)} {id : Nat} (hk : id ∈ keys h) : ∃ o,get h id = some o:=by
 induction h with
 | nil=>simp [keys] at hk
 | cons a h ih =>
  rw [get_cons]
  by_cases e : a.1 = id
  ·rw [if_pos e];exact ⟨_,rfl⟩
  ·rw [if_neg e]
   simp only [keys,List.map_cons,List.mem_cons] at hk
   exact ih (hk.resolve_left fun h=>e h.symm)
theorem del1_spec : ∀ {h : List (Nat × LObj)} (id : Nat),(keys h).Nodup → (∀ i,get (del1 h id) i = if i = id then none else get h i) ∧ (keys (del1 h id)).Nodup ∧ ∀ x ∈ keys (del1 h id),x ∈ keys h ∧ x ≠ id
 | [],id,_=>⟨fun i=>by simp [del1,get_nil],by simp [del1,keys],fun x hx=>by simp [del1,keys] at hx⟩
 | a :: h,id,hn=>by
  have hn' : a.1 ∉ keys h ∧ (keys h).Nodup:=by simpa [keys] using hn
  rw [del1]
  by_cases e : a.1 = id
  ·rw [if_pos e]
   refine ⟨fun i=>?_,hn'.2,fun x hx=>⟨by simp only [keys,List.map_cons,List.mem_cons];exact .inr hx,fun e2=>hn'.1 (by rw [e,← e2];exact hx)⟩⟩
   rw [get_cons]
   by_cases e2 : i = id
   ·rw [if_pos e2,e2,← e];exact get_key hn'.1
   ·rw [if_neg e2,if_neg (fun h=>e2 (by rw [← h,e]))]
  ·rw [if_neg e]
   obtain ⟨h1,h2,h3⟩:=del1_spec (h:=h) id hn'.2
   refine ⟨fun i=>?_,?_,fun x hx=>?_⟩
   ·rw [get_cons,get_cons,h1 i]
    by_cases e2 : a.1 = i
    ·rw [if_pos e2,if_pos e2,if_neg (fun h=>e (by rw [e2,h]))]
    ·rw [if_neg e2,if_neg e2]
   ·simp only [keys,List.map_cons,List.nodup_cons]
    exact ⟨fun hx=>hn'.1 (h3 _ hx).1,h2⟩
   ·simp only [keys,List.map_cons,List.mem_cons] at hx ⊢
    rcases hx with rfl | hx
    ·exact ⟨.inl rfl,e⟩
    ·exact ⟨.inr (h3 x hx).1,(h3 x hx).2⟩
theorem putK_eq {ρ : Type} (v : MV) : ∀ (l : List MV) (n : Nat) (k : List MV → Option ρ),putK v l n k = k (l.set n v)
 | [],_,_=>rfl
 | a :: l,0,k=>rfl
 | a :: l,n + 1,k=>by
  show putK v l n (fun l'=>k (a :: l')) = _
  rw [putK_eq v l n]
  rfl
theorem dstK_eq {ρ : Type} (v : MV) (l : List MV) (d : Option Tmp) (k : List MV → Option ρ) : dstK v l d k = k (putD l d v):=by
 cases d with
 | none=>rfl
 | some n=>exact putK_eq v l n k
theorem natK_eq {ρ : Type} (n : Nat) (k : Nat → Option ρ) : natK n k = k n:=by cases n <;> rfl
theorem intK_eq {ρ : Type} (n : Int) (k : Int → Option ρ) : intK n k = k n:=by
 cases n <;> simp [intK,natK_eq]
theorem textK_eq {ρ : Type} : ∀ (s : List UInt8) (k : List UInt8 → Option ρ),textK s k = k s
 | [],_=>rfl
 | a :: s,k=>by
  show byteK a (fun a=>textK s fun l=>k (a :: l)) = _
  have : ∀ (a : UInt8) (k : UInt8 → Option ρ),byteK a k = k a:=fun a k=>rfl
  rw [this,textK_eq s]
theorem force1_eq {ρ : Type} (v : MV) (k : MV → Option ρ) : force1 v k = k v:=by
 unfold force1
 split
 ·rw [textK_eq]
 ·rw [intK_eq]
 ·rename_i b;cases b <;> rfl
 ·simp only [natK_eq]
 ·simp only [natK_eq]
 ·rfl
theorem listK_eq {ρ : Type} : ∀ (l : List MV) (k : List MV → Option ρ),listK l k = k l
 | [],_=>rfl
 | a :: l,k=>by
  show listK l (fun l'=>k (a :: l')) = _
  rw [listK_eq l]
theorem cellsK_eq {ρ : Type} : ∀ (l : List MV) (k : List MV → Option ρ),cellsK l k = k l
 | [],_=>rfl
 | a :: l,k=>by
  show force1 a (fun a=>cellsK l fun l'=>k (a :: l')) = _
  rw [force1_eq,cellsK_eq l]
theorem force2_eq {ρ : Type} (v : MV) (k : MV → Option ρ) : force2 v k = k v:=by
 unfold force2
 split
 ·rw [cellsK_eq]
 ·rw [force1_eq]
theorem tupK_eq {ρ : Type} : ∀ (l : List MV) (k : List MV → Option ρ),tupK l k = k l
 | [],_=>rfl
 | a :: l,k=>by
  show force2 a (fun a=>tupK l fun l'=>k (a :: l')) = _
  rw [force2_eq,tupK_eq l]
theorem forceK_eq {ρ : Type} (v : MV) (k : MV → Option ρ) : forceK v k = k v:=by
 unfold forceK
 split
 ·rw [tupK_eq]
 ·rw [force2_eq]
theorem entsK_eq {ρ : Type} : ∀ (l : List (MV × MV × Nat)) (k : List (MV × MV × Nat) → Option ρ),entsK l k = k l
 | [],_=>rfl
 | (x,y,n) :: l,k=>by
  show (forceK x fun x=>forceK y fun y=>natK n fun n=>entsK l fun l'=>k ((x,y,n) :: l')) = _
  rw [forceK_eq,forceK_eq,natK_eq,entsK_eq l]
theorem objK_eq {ρ : Type} (o : LObj) (k : LObj → Option ρ) : objK o k = k o:=by
 cases o with
 | cells f cs=>exact listK_eq _ _
 | map es c=>show (entsK es fun es=>natK c fun c=>k (.map es c)) = _;rw [entsK_eq,natK_eq]
 | iter s p=>show natK p (fun p=>k (.iter s p)) = _;rw [natK_eq]
 | loop=>rfl
theorem newK_eq {ρ : Type} (o : LObj) (k : LObj → Option ρ) : newK o k = k o:=by
 cases o <;> first | rfl | exact cellsK_eq _ _
theorem setK_cons {ρ : Type} (nid : Nat) (fr : Bool) (id : Nat) (x : Option LObj) (rest : List (Nat × Option LObj)) (h : List (Nat × LObj)) (k : List (Nat × LObj) → Option ρ) : setK nid fr ((id,x) :: rest) h k = bif fr && Nat.beq id nid then (match x with
   | some o=>newK o fun o=>setK nid false rest ((nid,o) :: h) k
   | none=>none)
  else delK h id fun h'=>match x with
   | some o=>objK o fun o=>setK nid fr rest ((id,o) :: h') k
   | none=>setK nid fr rest h' k:=rfl
theorem setK_spec {ρ : Type} {nid : Nat} {k : List (Nat × LObj) → Option ρ} {r : ρ} : ∀ (sets : List (Nat × Option LObj)) (fr : Bool) (h : List (Nat × LObj)),setK nid fr sets h k = some r → (keys h).Nodup → (fr = true → nid ∉ keys h) →
  ∃ h',k h' = some r ∧ (∀ i,get h' i = get (sets.foldl set1 h) i) ∧ (keys h').Nodup
 | [],_,h,hk,hn,_=>⟨h,hk,fun _=>rfl,hn⟩
 | (id,x) :: rest,fr,h,hk,hn,hf=>by
  have congr : ∀ (l : List (Nat × Option LObj)) (h1 h2 : List (Nat × LObj)),(∀ i,get h1 i = get h2 i) → ∀ i,get (l.foldl set1 h1) i = get (l.foldl set1 h2) i:=by
   intro l
   induction l with
   | nil=>exact fun _ _ h=>h
   | cons p l ih=>exact fun h1 h2 h=>ih _ _ fun i=>by rw [get_set1,get_set1,h i]
  rw [setK_cons] at hk
  cases hc : (fr && Nat.beq id nid) with
  | true =>
   simp only [hc,cond_true] at hk
   simp only [Bool.and_eq_true] at hc
   have e : id = nid:=Nat.eq_of_beq_eq_true hc.2
   cases x with
   | none=>cases hk
   | some o =>
    simp only [newK_eq] at hk
    rw [← e] at hk
    obtain ⟨h',h1,h2,h3⟩:=setK_spec rest false ((id,o) :: h) hk (by simp only [keys,List.map_cons,List.nodup_cons];exact ⟨by rw [e];exact hf hc.1,hn⟩) (fun h=>by cases h)
    refine ⟨h',h1,fun i=>?_,h3⟩
    rw [h2 i]
    refine congr rest _ _ (fun j=>?_) i
    rw [get_set1,get_cons]
    by_cases e2 : j = id
    ·rw [if_pos e2,if_pos e2.symm]
    ·rw [if_neg e2,if_neg (fun h=>e2 h.symm)]
  | false =>
   simp only [hc,cond_false,delK_eq] at hk
   obtain ⟨d1,d2,d3⟩:=del1_spec id hn
   cases x with
   | none =>
    obtain ⟨h',h1,h2,h3⟩:=setK_spec rest fr (del1 h id) hk d2 (fun h hx=>hf h (d3 _ hx).1)
    refine ⟨h',h1,fun i=>?_,h3⟩
    rw [h2 i]
    exact congr rest _ _ (fun j=>by rw [get_set1,d1 j]) i
   | some o =>
    simp only [objK_eq] at hk
    have hne : fr = true → id ≠ nid:=fun h e=>by rw [h,e,Nat.beq_refl] at hc;cases hc
    obtain ⟨h',h1,h2,h3⟩:=setK_spec rest fr ((id,o) :: del1 h id) hk (by simp only [keys,List.map_cons,List.nodup_cons];exact ⟨fun hx=>(d3 _ hx).2 rfl,d2⟩) (fun h hx=>by
     simp only [keys,List.map_cons,List.mem_cons] at hx
     rcases hx with hx | hx
     ·exact hne h hx.symm
     ·exact hf h (d3 _ hx).1)
    refine ⟨h',h1,fun i=>?_,h3⟩
    rw [h2 i]
    refine congr rest _ _ (fun j=>?_) i
    rw [get_set1,get_cons,d1 j]
    by_cases e2 : j = id
    ·subst e2;simp
    ·rw [if_neg e2,if_neg (fun h=>e2 h.symm),if_neg e2]
section mem
variable {P : Program} {B : Nat → Prop} {w0 w : World} {df : List Deferred} {ι : Io} {st : MSt} {a : Act}
def act0 : Act:={ tmps:=#[],defers:=[] }
def Mem (B : Nat → Prop) (w0 w : World) (ι : Io) (h : List (Nat × LObj)) (nx : Nat) : Prop:=Mrl B w0 w [] ι ⟨[],h,nx⟩ act0
theorem Mrl.mem (h : Mrl B w0 w df ι st a) : Mem B w0 w ι st.h st.nx:=⟨MRels.nil,rfl,h.obj,h.inj,h.lt,h.nx,h.kept,h.ble,h.glb⟩
theorem Mem.act {h : List (Nat × LObj)} {nx : Nat} (hm : Mem B w0 w ι h nx) {tm : List MV} (ht : MRels ι tm a.tmps.toList) (hd : a.defers = df) : Mrl B w0 w df ι ⟨tm,h,nx⟩ a:=⟨ht,hd,hm.obj,hm.inj,hm.lt,hm.nx,hm.kept,hm.ble,hm.glb⟩
theorem put_rel {tm : List MV} (h : MRels ι tm a.tmps.toList) (d : Option Tmp) {v : MV} {u : Value} (hv : MRel ι v u) : MRels ι (putD tm d v) (a.put d u).tmps.toList:=by
 rw [Go.Ev.Act.put_tmps]
 cases d with
 | none=>exact h
 | some n=>exact h.set n hv
theorem Mrl.putA (h : Mrl B w0 w df ι st a) (d : Option Tmp) {v : MV} {u : Value} (hv : MRel ι v u) {h' : List (Nat × LObj)} (hh : ∀ i,get h' i = get st.h i) : Mrl B w0 w df ι ⟨putD st.tm d v,h',st.nx⟩ (a.put d u) :=
 let h2:=h.look hh
 ⟨put_rel h.tm d hv,by rw [Go.Ev.Act.put_defers];exact h.df,h2.obj,h2.inj,h2.lt,h2.nx,h2.kept,h2.ble,h2.glb⟩
end mem
theorem goes_mono {P : Program} {f : FuncId} {args : Array Value} {w : World} {R R' : Ending → World → Prop} (h : Goes P f args w R) (hR : ∀ e w',R e w' → R' e w') : Goes P f args w R':=by
 rcases h with ⟨hb,h⟩ | ⟨hb,u,w',h1,h2⟩
 ·exact .inl ⟨hb,h.mono hR⟩
 ·exact .inr ⟨hb,u,w',h1,hR _ _ h2⟩
def COK (P : Program) (call : CallT) : Prop :=
 ∀ (ρ : Type) (g : Nat) (args : List MV) (h : List (Nat × LObj)) (nx : Nat) (k : MV → List (Nat × LObj) → Nat → Option ρ) (r : ρ) (B : Nat → Prop) (w0 w : World) (ι : Io) (vs : List Value),call ρ g args h nx k = some r → Mem B w0 w ι h nx → (keys h).Nodup → MRels ι args vs →
  Goes P g vs.toArray w fun e w'=>∃ u v ι' h' nx',e = .returned u ∧ k v h' nx' = some r ∧ Ext ι ι' ∧ (∀ id,id < nx → ι' id = ι id) ∧ nx ≤ nx' ∧ MRel ι' v u ∧ Mem B w0 w' ι' h' nx' ∧ (keys h').Nodup
def RDK (P : Program) (round : CodeT) : Prop :=
 ∀ (l : Nat) (c : Code) (ρ : Type) (st : MSt) (k : Ex → MSt → Option ρ) (r : ρ) (B : Nat → Prop) (w0 w : World) (df : List Deferred) (ι : Io) (a : Act) (Q : Exit → Act → World → Prop),noRng c = true → round ρ c st k = some r → Mrl B w0 w df ι st a → (keys st.h).Nodup →
  (∀ e st' a' w' ι',k e st' = some r → Ext ι ι' → (∀ id,id < st.nx → ι' id = ι id) → st.nx ≤ st'.nx → Mrl B w0 w' df ι' st' a' → (keys st'.h).Nodup → Q (exOf e) a' w') → c.wpR (some l) P Q a w
section step
variable {R : Option Nat} {ρ : Type} {P : Program} {Γ : Env} {call : CallT} {round : CodeT} {B : Nat → Prop} {w0 w : World} {df : List Deferred} {ι : Io} {st : MSt} {a : Act} {o : Oper} {nid : Nat} {k : MSt → Option ρ} {r : ρ}
theorem done_wp {e : MEff} (hD : Done P B w0 w df ι st a o nid e) (hn : (keys st.h).Nodup) (hf : nid ∉ keys st.h) {K : Act → World → Prop} {Q : Exit → Act → World → Prop}
  (hk : (forceK e.v fun v=>dstK v st.tm o.dst fun tm=>setK nid true e.sets st.h fun h=>k ⟨tm,h,st.nx⟩) = some r)
  (hK : ∀ st' a' w' ι',k st' = some r → Ext ι ι' → (∀ id,id ≠ nid → ι' id = ι id) → st'.nx = st.nx → Mrl B w0 w' df ι' st' a' → (keys st'.h).Nodup → K a' w') : o.wpR R P a w K Q:=by
 obtain ⟨u,w',ι',hr,he,ho,hv,hM⟩:=hD
 rw [forceK_eq,dstK_eq] at hk
 obtain ⟨h',h1,h2,h3⟩:=setK_spec e.sets true st.h hk hn (fun _=>hf)
 have hfin:=hK _ (a.put o.dst u) w' ι' h1 he ho rfl (hM.putA o.dst hv h2) h3
 rcases hr with hr | ⟨hr,rfl⟩
 ·exact wp_value hr hfin
 ·exact wp_skip' hr hfin
def Live (ι : Io) (h : List (Nat × LObj)) (b : Nat) : Prop:=∃ id o p,get h id = some o ∧ ι id = some p ∧ p.g = b
theorem view_slv (hR : Mrl B w0 w df ι st a) {id off len cap wd : Nat} {u : Value} (h : MRel ι (.slc id off len cap wd) u) {q : List MV × List Nat} (hq : elemsM st.h 1 (.slc id off len cap wd) = some q) {s : Sh}
  (hs : ∀ c ∈ q.1,c.av.cells = [c.av] ∧ Go.Ev.hasSh s c.av = true ∧ Go.Ev.has1 s c.av = true) : VRel w (Live ι st.h) Go.Ev.nob (.slv s (MV.avs q.1)) u:=by
 have hq':=hq
 obtain ⟨A,n,c,ad,xs,hu,hA,hxs,h1,hcell,hlen,hm⟩:=elemsM_sound hR hq h
 unfold elemsM at hq'
 simp only at hq'
 split at hq'
 ·rename_i hwd
  have hwd' : 1 = wd:=Nat.eq_of_beq_eq_true hwd
  subst hwd'
  split at hq'
  ·rename_i cs hcs
   obtain ⟨frz,hg⟩:=cellsAt_some hcs
   cases h with
   | slc _ _ _ _ _ p o' cap' hp hl hc hmm ho hsh hz hw =>
    cases hu
    have hql : q.1.length = len:=by rw [hlen];simp
    have hal : (MV.avs q.1).length = len:=by rw [avs_len,hql]
    have hcells : ∀ c ∈ MV.avs q.1,Go.Ev.hasSh s c = true ∧ Go.Ev.has1 s c = true:=fun c hc=>by
     obtain ⟨j,hj⟩:=List.getElem?_of_mem hc
     obtain ⟨m,hm1,rfl⟩:=avs_at _ _ _ hj
     exact ⟨(hs m (List.mem_of_getElem? hm1)).2.1,(hs m (List.mem_of_getElem? hm1)).2.2⟩
    have hfl : Go.Ev.flat (MV.avs q.1) = MV.avs q.1:=Go.Ev.flat_ones (s:=s) fun c hc=>(hcells c hc).2
    have hav:=hxs.avs w (Live ι st.h) Go.Ev.nob
    have:=VRel.slv (w:=w) (S:=Live ι st.h) Go.Ev.nob s (MV.avs q.1) (some ⟨p.g,o',none⟩) _ ad xs (fun c hc=>(hcells c hc).1) (by omega) hmm (fun hne=>?_) (by rw [hfl];exact hav.1) h1 hcell (by rw [hfl];exact hav.2)
    ·rw [hal] at this;exact this
    ·have hpos : 0 < len:=by
      rcases Nat.eq_zero_or_pos len with h0 | h0
      ·exfalso;apply hne;exact List.eq_nil_of_length_eq_zero (by rw [hal,h0])
      ·exact h0
     refine ⟨hA hpos,id,_,p,hg,hp,?_⟩
     have:=hA hpos
     simp only [Option.some.injEq] at this
     rw [← this]
  ·cases hq'
 ·cases hq'
theorem view_rel (hR : Mrl B w0 w df ι st a) {m : MV} {u : Value} (h : MRel ι m u) : VRel w (Live ι st.h) Go.Ev.nob (viewM st.h m) u:=by
 unfold viewM
 split
 ·rw [h.slz_inv];exact .slz _ _ _
 ·rename_i id off len cap wd
  split
  ·rename_i q hq
   split
   ·rename_i hall
    refine view_slv hR h hq fun c hc=>?_
    have:=List.all_eq_true.1 hall c hc
    split at this
    ·exact ⟨rfl,rfl,rfl⟩
    ·cases this
   ·split
    ·rename_i hall
     refine view_slv hR h hq fun c hc=>?_
     have:=List.all_eq_true.1 hall c hc
     split at this
     ·exact ⟨rfl,rfl,rfl⟩
     ·cases this
    ·exact .unk _ _
  ·exact .unk _ _
 ·exact h.av _ _ _
theorem views_rel (hR : Mrl B w0 w df ι st a) : ∀ {ms : List MV} {us : List Value},MRels ι ms us → VRels w (Live ι st.h) Go.Ev.nob (viewsM st.h ms) us
 | [],us,h=>by rw [h.inv_nil];exact VRels.nil
 | m :: ms,us,h=>by
  obtain ⟨u,us',rfl,hu,hs⟩:=h.inv
  exact VRels.cons (view_rel hR hu) (views_rel hR hs)
theorem callF_sound (hΓ : ∀ g F,find Γ g = some F → SumOK P g F) (hC : COK P call) {g : Nat} {args : List MV} {vs : List Value} {h : List (Nat × LObj)} {nx : Nat} {k : MV → List (Nat × LObj) → Nat → Option ρ} (hk : callF P Γ call g args h nx k = some r) (hm : Mem B w0 w ι h nx) (hn : (keys h).Nodup) (hv : MRels ι args vs) :
  entersB P g = true ∧ Goes P g vs.toArray w fun e w'=>∃ u v ι' h' nx',e = .returned u ∧ k v h' nx' = some r ∧ Ext ι ι' ∧ (∀ id,id < nx → ι' id = ι id) ∧ nx ≤ nx' ∧ MRel ι' v u ∧ Mem B w0 w' ι' h' nx' ∧ (keys h').Nodup:=by
 unfold callF at hk
 split at hk
 ·rename_i hen
  refine ⟨hen,?_⟩
  split at hk
  ·rename_i F hF
   have hSlt : ∀ b,Live ι h b → b < w.heap.size:=fun b ⟨id,o,p,_,hp,hb⟩=>by rw [← hb];exact hm.lt id p hp
   have hG : Glb (fun b=>b < w.heap.size) w:=Glb.mono (B:=B) (fun w' hk'=>hm.glb w' (hm.kept.trans hk')) hm.ble
   have hgo:=hΓ g F hF ρ w (Live ι h) _ _ _ r ⟨hSlt,hG⟩ (views_rel (st:=⟨[],h,nx⟩) hm hv) hk
   refine goes_mono hgo fun e w' hp=>?_
   obtain ⟨u,v,S',rfl,hkv,hb,_,_,hvr⟩:=hp
   split at hkv
   ·rename_i m hmv
    refine ⟨u,m,ι,h,nx,rfl,hkv,Ext.refl _,fun _ _=>rfl,Nat.le_refl _,ofAV_rel hvr hmv,?_,hn⟩
    exact ⟨hm.tm,hm.df,fun i x hx=>let ⟨q,hq,ho,hg⟩:=hm.obj i x hx;⟨q,hq,ho.keep (Ext.refl _) (hb.block _ (hm.lt i q hq)),hg⟩,hm.inj,fun i q hq=>Nat.lt_of_lt_of_le (hm.lt i q hq) hb.size,hm.nx,hm.kept.trans (Kept.of_below hb hm.ble),fun b h=>Nat.lt_of_lt_of_le (hm.ble b h) hb.size,hm.glb⟩
   ·cases hkv
  ·exact hC ρ g args h nx k r B w0 w ι vs hk hm hn hv
 ·cases hk
theorem pickK_spec {id : Nat} {k : Option LObj → List (Nat × LObj) → Option ρ} : ∀ (h : List (Nat × LObj)),pickK h id k = k (get h id) (del1 h id)
 | []=>rfl
 | a :: h=>by
  show (bif Nat.beq a.1 id then k (some a.2) h else pickK h id fun x h'=>k x (a :: h')) = _
  rw [beq_dec,get_cons,del1]
  by_cases e : a.1 = id
  ·simp [e]
  ·simp only [e,decide_false,cond_false,if_false]
   rw [pickK_spec h]
def Split2 (h hr rest : List (Nat × LObj)) : Prop:=(keys hr).Nodup ∧ (keys rest).Nodup ∧ (∀ x ∈ keys hr,x ∉ keys rest) ∧ (∀ i,get h i = match get hr i with | some o=>some o | none=>get rest i)
theorem get_some_key {h : List (Nat × LObj)} {id : Nat} {o : LObj} (hg : get h id = some o) : id ∈ keys h:=by
 rcases Classical.em (id ∈ keys h) with h1 | h1
 ·exact h1
 ·rw [get_key h1] at hg;cases hg
theorem takeM_spec {h : List (Nat × LObj)} {k : List (Nat × LObj) → List (Nat × LObj) → Option ρ} {r : ρ} : ∀ (n : Nat) (ws : List Nat) (hr rest : List (Nat × LObj)),takeM n ws hr rest k = some r → Split2 h hr rest → ∃ hr' rest',k hr' rest' = some r ∧ Split2 h hr' rest' ∧ ∀ x ∈ keys hr,x ∈ keys hr'
 | 0,_,hr,rest,hk,hs=>⟨hr,rest,hk,hs,fun _ h=>h⟩
 | _ + 1,[],hr,rest,hk,hs=>⟨hr,rest,hk,hs,fun _ h=>h⟩
 | n + 1,id :: ws,hr,rest,hk,hs=>by
  obtain ⟨s1,s2,s3,s4⟩:=hs
  simp only [takeM,pickK_spec] at hk
  obtain ⟨d1,d2,d3⟩:=del1_spec id s2
  cases hg : get rest id with
  | none =>
   rw [hg] at hk
   refine takeM_spec n ws hr (del1 rest id) hk ⟨s1,d2,fun x hx h2=>s3 x hx (d3 x h2).1,fun i=>?_⟩
   rw [s4 i]
   cases get hr i with
   | some o=>rfl
   | none =>
    show get rest i = get (del1 rest id) i
    rw [d1 i]
    by_cases e : i = id
    ·rw [if_pos e,e,hg]
    ·rw [if_neg e]
  | some o =>
   rw [hg] at hk
   have hid : id ∈ keys rest:=get_some_key hg
   have hnr : id ∉ keys hr:=fun h=>s3 id h hid
   obtain ⟨hr',rest',h1,h2,h3⟩:=takeM_spec n (refsO o ws) ((id,o) :: hr) (del1 rest id) hk ⟨by simp only [keys,List.map_cons,List.nodup_cons];exact ⟨hnr,s1⟩,d2,fun x hx h2=>by
     simp only [keys,List.map_cons,List.mem_cons] at hx
     rcases hx with rfl | hx
     ·exact (d3 _ h2).2 rfl
     ·exact s3 x hx (d3 x h2).1,fun i=>by
    rw [s4 i,get_cons,d1 i]
    by_cases e : id = i
    ·subst e
     rw [if_pos rfl,get_key hnr,hg]
    ·rw [if_neg e,if_neg (fun h=>e h.symm)]⟩
   exact ⟨hr',rest',h1,h2,fun x hx=>h3 x (by simp only [keys,List.map_cons,List.mem_cons];exact .inr hx)⟩
theorem joinK_eq {h' : List (Nat × LObj)} : ∀ (h : List (Nat × LObj)) (k : List (Nat × LObj) → Option ρ),joinK h h' k = k (h ++ h')
 | [],_=>rfl
 | a :: h,k=>by
  show joinK h h' (fun l=>k (a :: l)) = _
  rw [joinK_eq h];rfl
theorem get_append (h h' : List (Nat × LObj)) (i : Nat) : get (h ++ h') i = match get h i with | some o=>some o | none=>get h' i:=by
 induction h with
 | nil=>rfl
 | cons a h ih =>
  rw [List.cons_append,get_cons,get_cons,ih]
  by_cases e : a.1 = i
  ·rw [if_pos e,if_pos e]
  ·rw [if_neg e,if_neg e]
def Part (h h' : List (Nat × LObj)) : Prop:=(keys h').Nodup ∧ ∀ i o,get h' i = some o → get h i = some o
theorem partK_spec {nx : Nat} : ∀ (h : List (Nat × LObj)) (k : List (Nat × LObj) → List (Nat × LObj) → Option ρ),(keys h).Nodup → ∃ x y,partK nx h k = k x y ∧ Split2 h x y ∧ (∀ i ∈ keys x,i ∈ keys h) ∧ ∀ i ∈ keys y,i ∈ keys h
 | [],k,_=>⟨[],[],rfl,⟨by simp [keys],by simp [keys],fun x hx=>by simp [keys] at hx,fun i=>rfl⟩,fun i h=>by simp [keys] at h,fun i h=>by simp [keys] at h⟩
 | a :: h,k,hn=>by
  have hn' : a.1 ∉ keys h ∧ (keys h).Nodup:=by simpa [keys] using hn
  have e : partK nx (a :: h) k = partK nx h fun x y=>bif Nat.blt a.1 nx then k (a :: x) y else k x (a :: y):=rfl
  obtain ⟨x,y,h1,⟨s1,s2,s3,s4⟩,h2,h3⟩:=partK_spec h (fun x y=>bif Nat.blt a.1 nx then k (a :: x) y else k x (a :: y)) hn'.2
  have hx : a.1 ∉ keys x:=fun h=>hn'.1 (h2 _ h)
  have hy : a.1 ∉ keys y:=fun h=>hn'.1 (h3 _ h)
  rw [e,h1]
  cases Nat.blt a.1 nx with
  | true =>
   refine ⟨a :: x,y,rfl,⟨by simp only [keys,List.map_cons,List.nodup_cons];exact ⟨hx,s1⟩,s2,fun i hi=>?_,fun i=>?_⟩,fun i hi=>?_,fun i hi=>?_⟩
   ·simp only [keys,List.map_cons,List.mem_cons] at hi
    rcases hi with rfl | hi
    ·exact hy
    ·exact s3 i hi
   ·rw [get_cons,get_cons,s4 i]
    by_cases e : a.1 = i
    ·rw [if_pos e,if_pos e]
    ·rw [if_neg e,if_neg e]
   ·simp only [keys,List.map_cons,List.mem_cons] at hi ⊢
    exact hi.imp (fun h=>h) (h2 i)
   ·simp only [keys,List.map_cons,List.mem_cons];exact .inr (h3 i hi)
  | false =>
   refine ⟨x,a :: y,rfl,⟨s1,by simp only [keys,List.map_cons,List.nodup_cons];exact ⟨hy,s2⟩,fun i hi h4=>?_,fun i=>?_⟩,fun i hi=>?_,fun i hi=>?_⟩
   ·simp only [keys,List.map_cons,List.mem_cons] at h4
    rcases h4 with rfl | h4
    ·exact hx hi
    ·exact s3 i hi h4
   ·rw [get_cons,get_cons,s4 i]
    by_cases e : a.1 = i
    ·subst e
     rw [if_pos rfl,get_key hx,if_pos rfl]
    ·rw [if_neg e,if_neg e]
   ·simp only [keys,List.map_cons,List.mem_cons];exact .inr (h2 i hi)
   ·simp only [keys,List.map_cons,List.mem_cons] at hi ⊢
    exact hi.imp (fun h=>h) (h3 i)
theorem Split2.left {h hr rest : List (Nat × LObj)} (hs : Split2 h hr rest) : Part h hr:=⟨hs.1,fun i o ho=>by rw [hs.2.2.2 i,ho]⟩
theorem sweepK_spec {nx : Nat} {v : MV} {h : List (Nat × LObj)} {k : List (Nat × LObj) → Option ρ} {r : ρ} (hk : sweepK nx v h k = some r) (hn : (keys h).Nodup) : ∃ h',k h' = some r ∧ Part h h':=by
 unfold sweepK at hk
 obtain ⟨x,y,h1,h2,_,_⟩:=partK_spec (nx:=nx) h (fun old new=>match new with
  | []=>k old
  | a :: l=>takeM 3000 (refsC v (rootsM old [])) old (a :: l) fun h' _=>k h') hn
 have hk : (fun old new=>match new with
  | []=>k old
  | a :: l=>takeM 3000 (refsC v (rootsM old [])) old (a :: l) fun h' _=>k h') x y = some r:=h1.symm.trans hk
 cases y with
 | nil=>exact ⟨x,hk,h2.left⟩
 | cons a l =>
  obtain ⟨hr',rest',h3,h4,_⟩:=takeM_spec (h:=h) 3000 _ _ _ hk h2
  exact ⟨hr',h3,h4.left⟩
theorem nearM_sound (hC : COK P call) : COK P (nearM call):=by
 intro ρ g args h nx k r B w0 w ι vs hk hm hn hv
 unfold nearM at hk
 obtain ⟨hr,rest,hk1,⟨s1,s2,s3,s4⟩,_⟩:=takeM_spec (h:=h) 3000 _ _ _ hk ⟨by simp [keys],hn,fun x hx=>by simp [keys] at hx,fun i=>rfl⟩
 have hrin : ∀ i o,get hr i = some o → get h i = some o:=fun i o ho=>by rw [s4 i,ho]
 have restin : ∀ i o,get rest i = some o → get h i = some o:=fun i o ho=>by
  rw [s4 i]
  have : i ∉ keys hr:=fun h=>s3 i h (get_some_key ho)
  rw [get_key this,ho]
 let B' : Nat → Prop:=fun b=>B b ∨ ∃ i o p,get rest i = some o ∧ ι i = some p ∧ p.g = b
 have hBB : ∀ b,B b → B' b:=fun b h=>.inl h
 have hm' : Mem B' w w ι hr nx:=⟨MRels.nil,rfl,fun id o ho=>by
   obtain ⟨p,hp,ho',hb⟩:=hm.obj id o (hrin id o ho)
   refine ⟨p,hp,ho',fun hB=>?_⟩
   rcases hB with hB | ⟨i,o',p',hi,hp',hg⟩
   ·exact hb hB
   ·have:=hm.inj id i o o' p p' (hrin id o ho) (restin i o' hi) hp hp' hg.symm
    subst this
    exact s3 id (get_some_key ho) (get_some_key hi),fun id id' o o' p p' ho ho'=>hm.inj id id' o o' p p' (hrin id o ho) (hrin id' o' ho'),hm.lt,hm.nx,Kept.refl _ _,fun b hb=>by
   rcases hb with hb | ⟨i,o,p,_,hp,rfl⟩
   ·exact hm.ble b hb
   ·exact hm.lt i p hp,Glb.mono (B:=B) (fun w' hk'=>hm.glb w' (hm.kept.trans hk')) hBB⟩
 refine goes_mono (hC ρ g args hr nx _ r B' w w ι vs hk1 hm' s1 hv) fun e w' hp=>?_
 obtain ⟨u,v,ι',h',nx',rfl,hk2,he,hne,hle,hvu,hM,hn'⟩:=hp
 obtain ⟨h2,hk3,hn2,h2in⟩:=sweepK_spec hk2 hn'
 rw [joinK_eq] at hk3
 have hapart : ∀ i ∈ keys h2,i ∉ keys rest:=fun i hi hi'=>by
  obtain ⟨o,ho⟩:=key_get hi
  obtain ⟨o',ho'⟩:=key_get hi'
  obtain ⟨p,hp,_,hb⟩:=hM.obj i o (h2in i o ho)
  obtain ⟨q,hq,_,_⟩:=hm.obj i o' (restin i o' ho')
  have hii:=hne i (hm.nx i q hq)
  rw [hii,hq] at hp
  cases hp
  exact hb (.inr ⟨i,o',_,ho',hq,rfl⟩)
 have hkB : Kept B w w':=⟨hM.kept.os,hM.kept.tape,hM.kept.output,hM.kept.size,fun b hb=>hM.kept.block b (hBB b hb)⟩
 refine ⟨u,v,ι',h2 ++ rest,nx',rfl,hk3,he,hne,hle,hvu,⟨MRels.nil,rfl,fun id o ho=>?_,fun id id' o o' p p' ho ho' hp hp' hg=>?_,hM.lt,hM.nx,hm.kept.trans hkB,fun b hb=>hM.ble b (hBB b hb),hm.glb⟩,?_⟩
 ·rw [get_append] at ho
  cases ho2 : get h2 id with
  | some o2 =>
   rw [ho2] at ho
   cases ho
   obtain ⟨p,hp,h3,hb⟩:=hM.obj id o (h2in id o ho2)
   exact ⟨p,hp,h3,fun h=>hb (hBB _ h)⟩
  | none =>
   rw [ho2] at ho
   obtain ⟨p,hp,h3,hb⟩:=hm.obj id o (restin id o ho)
   have hp' : ι' id = some p:=by rw [hne id (hm.nx id p hp)];exact hp
   exact ⟨p,hp',h3.keep he (hM.kept.block _ (.inr ⟨id,o,p,ho,hp,rfl⟩)),hb⟩
 ·have side : ∀ id o p,get (h2 ++ rest) id = some o → ι' id = some p → (get h2 id = some o ∧ ¬ B' p.g) ∨ (get rest id = some o ∧ B' p.g ∧ ι id = some p):=fun id o p ho hp=>by
   rw [get_append] at ho
   cases ho2 : get h2 id with
   | some o2 =>
    rw [ho2] at ho
    cases ho
    obtain ⟨q,hq,_,hb⟩:=hM.obj id o (h2in id o ho2)
    rw [hp] at hq;cases hq
    exact .inl ⟨rfl,hb⟩
   | none =>
    rw [ho2] at ho
    obtain ⟨q,hq,_,_⟩:=hm.obj id o (restin id o ho)
    have hii:=hne id (hm.nx id q hq)
    rw [hii,hq] at hp;cases hp
    exact .inr ⟨ho,.inr ⟨id,o,_,ho,hq,rfl⟩,hq⟩
  rcases side id o p ho hp with ⟨a1,a2⟩ | ⟨a1,a2,a3⟩ <;> rcases side id' o' p' ho' hp' with ⟨b1,b2⟩ | ⟨b1,b2,b3⟩
  ·exact hM.inj id id' o o' p p' (h2in _ _ a1) (h2in _ _ b1) hp hp' hg
  ·exact absurd b2 (by rw [← hg];exact a2)
  ·exact absurd a2 (by rw [hg];exact b2)
  ·exact hm.inj id id' o o' p p' (restin _ _ a1) (restin _ _ b1) a3 b3 hg
 ·simp only [keys,List.map_append,List.nodup_append]
  exact ⟨hn2,s2,fun i hi j hj e=>hapart i hi (by rw [e];exact hj)⟩
theorem near_core (hC : COK P call) {g : Nat} {args : List MV} {h hr : List (Nat × LObj)} {nx : Nat} {kk : MV → List (Nat × LObj) → Nat → Option ρ} {vs : List Value} (hk : call ρ g args hr nx kk = some r) (hm : Mem B w0 w ι h nx) (s1 : (keys hr).Nodup) (hrin : ∀ i o,get hr i = some o → get h i = some o) (hv : MRels ι args vs) :
  Goes P g vs.toArray w fun e w'=>∃ u v ι' h' nx',e = .returned u ∧ kk v h' nx' = some r ∧ Ext ι ι' ∧ (∀ id,id < nx → ι' id = ι id) ∧ nx ≤ nx' ∧ MRel ι' v u ∧ (keys h').Nodup ∧ ∀ h3,(∀ i o,get h3 i = some o → get h' i = some o ∨ (get hr i = none ∧ get h i = some o)) → Mem B w0 w' ι' h3 nx':=by
 let B' : Nat → Prop:=fun b=>B b ∨ ∃ i o p,get hr i = none ∧ get h i = some o ∧ ι i = some p ∧ p.g = b
 have hBB : ∀ b,B b → B' b:=fun b h=>.inl h
 have hm' : Mem B' w w ι hr nx:=⟨MRels.nil,rfl,fun id o ho=>by
   obtain ⟨p,hp,ho',hb⟩:=hm.obj id o (hrin id o ho)
   refine ⟨p,hp,ho',fun hB=>?_⟩
   rcases hB with hB | ⟨i,o',p',hi,hi2,hp',hg⟩
   ·exact hb hB
   ·have:=hm.inj id i o o' p p' (hrin id o ho) hi2 hp hp' hg.symm
    subst this
    exact absurd (ho.symm.trans hi) (by simp),fun id id' o o' p p' ho ho'=>hm.inj id id' o o' p p' (hrin id o ho) (hrin id' o' ho'),hm.lt,hm.nx,Kept.refl _ _,fun b hb=>by
   rcases hb with hb | ⟨i,o,p,_,_,hp,rfl⟩
   ·exact hm.ble b hb
   ·exact hm.lt i p hp,Glb.mono (B:=B) (fun w' hk'=>hm.glb w' (hm.kept.trans hk')) hBB⟩
 refine goes_mono (hC ρ g args hr nx _ r B' w w ι vs hk hm' s1 hv) fun e w' hp=>?_
 obtain ⟨u,v,ι',h',nx',rfl,hk2,he,hne,hle,hvu,hM,hn'⟩:=hp
 have hkB : Kept B w w':=⟨hM.kept.os,hM.kept.tape,hM.kept.output,hM.kept.size,fun b hb=>hM.kept.block b (hBB b hb)⟩
 refine ⟨u,v,ι',h',nx',rfl,hk2,he,hne,hle,hvu,hn',fun h3 h3in=>⟨MRels.nil,rfl,fun id o ho=>?_,fun id id' o o' p p' ho ho' hp hp' hg=>?_,hM.lt,hM.nx,hm.kept.trans hkB,fun b hb=>hM.ble b (hBB b hb),hm.glb⟩⟩
 ·rcases h3in id o ho with ho2 | ⟨hr0,ho2⟩
  ·obtain ⟨p,hp,h3,hb⟩:=hM.obj id o ho2
   exact ⟨p,hp,h3,fun h=>hb (hBB _ h)⟩
  ·obtain ⟨p,hp,h3,hb⟩:=hm.obj id o ho2
   have hp' : ι' id = some p:=by rw [hne id (hm.nx id p hp)];exact hp
   exact ⟨p,hp',h3.keep he (hM.kept.block _ (.inr ⟨id,o,p,hr0,ho2,hp,rfl⟩)),hb⟩
 ·have side : ∀ id o p,get h3 id = some o → ι' id = some p → (get h' id = some o ∧ ¬ B' p.g) ∨ (get h id = some o ∧ B' p.g ∧ ι id = some p):=fun id o p ho hp=>by
   rcases h3in id o ho with ho2 | ⟨hr0,ho2⟩
   ·obtain ⟨q,hq,_,hb⟩:=hM.obj id o ho2
    rw [hp] at hq;cases hq
    exact .inl ⟨ho2,hb⟩
   ·obtain ⟨q,hq,_,_⟩:=hm.obj id o ho2
    have hii:=hne id (hm.nx id q hq)
    rw [hii,hq] at hp;cases hp
    exact .inr ⟨ho2,.inr ⟨id,o,_,hr0,ho2,hq,rfl⟩,hq⟩
  rcases side id o p ho hp with ⟨a1,a2⟩ | ⟨a1,a2,a3⟩ <;> rcases side id' o' p' ho' hp' with ⟨b1,b2⟩ | ⟨b1,b2,b3⟩
  ·exact hM.inj id id' o o' p p' a1 b1 hp hp' hg
  ·exact absurd b2 (by rw [← hg];exact a2)
  ·exact absurd a2 (by rw [hg];exact b2)
  ·exact hm.inj id id' o o' p p' a1 b1 a3 b3 hg
theorem memK_eq : ∀ (hr : List (Nat × LObj)) (id : Nat),memK hr id = true ↔ id ∈ keys hr
 | [],id=>by simp [memK,keys]
 | a :: h,id=>by
  show (bif Nat.beq a.1 id then true else memK h id) = true ↔ _
  rw [beq_dec]
  by_cases e : a.1 = id
  ·simp [e,keys]
  ·rw [decide_eq_false e]
   show memK h id = true ↔ _
   rw [memK_eq h id]
   simp only [keys,List.map_cons,List.mem_cons]
   exact ⟨.inr,fun h=>h.resolve_left fun h=>e h.symm⟩
theorem reachS_spec {h : List (Nat × LObj)} : ∀ (n : Nat) (ws : List Nat) (acc hr : List (Nat × LObj)),reachS n ws acc h = some hr → (keys acc).Nodup → (∀ i o,get acc i = some o → get h i = some o) → (keys hr).Nodup ∧ (∀ i o,get hr i = some o → get h i = some o) ∧ (∀ x ∈ keys acc,x ∈ keys hr) ∧
  ∀ h',(∀ x ∈ keys hr,get h' x = get h x) → reachS n ws acc h' = some hr
 | 0,_,_,_,hk,_,_=>by cases hk
 | n + 1,[],acc,hr,hk,hn,hin=>by cases hk;exact ⟨hn,hin,fun _ h=>h,fun _ _=>rfl⟩
 | n + 1,id :: ws,acc,hr,hk,hn,hin=>by
  simp only [reachS] at hk ⊢
  cases hm : memK acc id with
  | true =>
   simp only [hm,cond_true] at hk ⊢
   exact reachS_spec n ws acc hr hk hn hin
  | false =>
   simp only [hm,cond_false] at hk ⊢
   have hni : id ∉ keys acc:=fun h=>by rw [(memK_eq acc id).2 h] at hm;cases hm
   split at hk
   ·rename_i o ho
    obtain ⟨h1,h2,h3,h4⟩:=reachS_spec n (refsO o ws) ((id,o) :: acc) hr hk (by simp only [keys,List.map_cons,List.nodup_cons];exact ⟨hni,hn⟩) (fun i x hx=>by
     rw [get_cons] at hx
     by_cases e : id = i
     ·rw [if_pos e] at hx;cases hx;rw [← e];exact ho
     ·rw [if_neg e] at hx;exact hin i x hx)
    have hid : id ∈ keys hr:=h3 id (by simp [keys])
    refine ⟨h1,h2,fun x hx=>h3 x (by simp only [keys,List.map_cons,List.mem_cons];exact .inr hx),fun h' he=>?_⟩
    rw [he id hid,ho]
    exact h4 h' he
   ·cases hk
theorem gone_get : ∀ (hr h : List (Nat × LObj)) (i : Nat),get ((hr.map fun p=>(p.1,(none : Option LObj))).foldl set1 h) i = if i ∈ keys hr then none else get h i
 | [],h,i=>by simp [keys]
 | a :: hr,h,i=>by
  rw [List.map_cons,List.foldl_cons,gone_get hr,get_set1]
  simp only [keys,List.map_cons,List.mem_cons]
  by_cases h1 : i ∈ List.map (fun x=>x.fst) hr
  ·rw [if_pos h1,if_pos (.inr h1)]
  ·rw [if_neg h1]
   by_cases h2 : i = a.1
   ·rw [if_pos h2,if_pos (.inl h2)]
   ·rw [if_neg h2,if_neg (fun h=>h.elim h2 h1)]
theorem made_get : ∀ (h' h : List (Nat × LObj)) (i : Nat),(keys h').Nodup → get ((h'.map fun p=>(p.1,some p.2)).foldl set1 h) i = match get h' i with | some o=>some o | none=>get h i
 | [],h,i,_=>rfl
 | a :: h',h,i,hn=>by
  have hn' : a.1 ∉ keys h' ∧ (keys h').Nodup:=by simpa [keys] using hn
  rw [List.map_cons,List.foldl_cons,made_get h' _ i hn'.2,get_set1,get_cons]
  by_cases e : a.1 = i
  ·subst e
   rw [if_pos rfl,get_key hn'.1,if_pos rfl]
  ·rw [if_neg e,if_neg (fun h=>e h.symm)]
end step
end Go.Mi

namespace Go.Mi
open Go.RowKit
open Go.Ev (AV Sh Summ Env Ex find entersB hasBody nilB VRel VRels Kept Glb Goes SumOK markD exOf semAt_of wp_value wp_skip')
section step
variable {R : Option Nat} {ρ : Type} {P : Program} {Γ : Env} {call : CallT} {round : CodeT} {B : Nat → Prop} {w0 w : World} {df : List Deferred} {ι : Io} {st : MSt} {a : Act} {o : Oper} {nid : Nat} {k : MSt → Option ρ} {r : ρ}
theorem Mrl.notin (hR : Mrl B w0 w df ι st a) {id : Nat} (h : ι id = none) : id ∉ keys st.h:=fun hk=>by
 obtain ⟨o,ho⟩:=key_get hk
 obtain ⟨p,hp,_⟩:=hR.obj id o ho
 rw [h] at hp
 cases hp
theorem zipPut_rel {ι : Io} : ∀ (ps : List Tmp) (vs : List MV) (us : List Value) (tm : List MV) (ts : Array Value),MRels ι vs us → MRels ι tm ts.toList → MRels ι (zipPut ps vs tm) ((ps.zip us).foldl (fun t (x : Tmp × Value)=>t.setIfInBounds x.1 x.2) ts).toList
 | [],_,_,_,_,_,ht=>by unfold zipPut;simpa using ht
 | p :: ps,[],us,tm,ts,hv,ht=>by rw [hv.inv_nil];unfold zipPut;simpa using ht
 | p :: ps,v :: vs,us,tm,ts,hv,ht=>by
  obtain ⟨u,us',rfl,hu,hs⟩:=hv.inv
  simp only [List.zip_cons_cons,List.foldl_cons]
  unfold zipPut
  refine zipPut_rel ps vs us' _ _ hs ?_
  rw [put_eq,Array.toList_setIfInBounds]
  exact ht.set p hu
theorem stepM_sound (hΓ : ∀ g F,find Γ g = some F → SumOK P g F) (hC : COK P call) (hRd : RDK P round) (hR : Mrl B w0 w df ι st a) (hn : (keys st.h).Nodup) (hf : ι nid = none) (hlt : nid < st.nx) (h : stepM P Γ call round nid o st k = some r) {K : Act → World → Prop} {Q : Exit → Act → World → Prop}
  (hK : ∀ st' a' w' ι',k st' = some r → Ext ι ι' → (∀ id,id < st.nx → id ≠ nid → ι' id = ι id) → st.nx ≤ st'.nx → Mrl B w0 w' df ι' st' a' → (keys st'.h).Nodup → K a' w') : o.wpR R P a w K Q:=by
 unfold stepM at h
 split at h
 ·rename_i f args ts ho
  have hfv:=mval_rel hR.tm f
  have hargs:=mvals_rel hR.tm args.toList
  split at h
  ·rename_i g caps hfe
   rw [hfe] at hfv
   generalize hfe2 : a.eval f = fv at hfv
   cases hfv with
   | fn _ _ cvs hcl hch =>
    obtain ⟨hen,hgo⟩:=callF_sound hΓ hC h hR.mem hn (hargs.append ⟨hcl,hch⟩)
    have hmap : (args.map a.eval) ++ cvs.toArray = (args.toList.map a.eval ++ cvs).toArray:=by apply Array.ext';simp
    have hrun : ∀ s,(callFunc g (args.toList.map a.eval ++ cvs).toArray).run P w = s → (execOp a.eval o).run P w = s:=fun s hcf=>by
     simp only [execOp,ho,resolve,hfe2,Deferred.ofValue]
     simp only [pure_bind,invoke,Array.empty_append,hmap]
     exact hcf
    refine hgo.wp hen hrun fun e w' hp=>?_
    obtain ⟨u,v,ι',h',nx',rfl,hk,he,hne,hle,hv,hM,hn'⟩:=hp
    rw [forceK_eq,dstK_eq] at hk
    exact ⟨u,rfl,hK _ _ _ _ hk he (fun id hid _=>hne id hid) hle (hM.act (put_rel (hR.tm.mono he) o.dst hv) (by rw [Go.Ev.Act.put_defers];exact hR.df)) hn'⟩
  ·rename_i g first hfe
   rw [hfe] at hfv
   generalize hfe2 : a.eval f = fv at hfv
   cases hfv with
   | bnd _ _ cvs hcl hch =>
    obtain ⟨hen,hgo⟩:=callF_sound hΓ hC h hR.mem hn (MRels.append ⟨hcl,hch⟩ hargs)
    have hmap : cvs.toArray ++ (args.map a.eval) = (cvs ++ args.toList.map a.eval).toArray:=by apply Array.ext';simp
    have hrun : ∀ s,(callFunc g (cvs ++ args.toList.map a.eval).toArray).run P w = s → (execOp a.eval o).run P w = s:=fun s hcf=>by
     simp only [execOp,ho,resolve,hfe2,Deferred.ofValue]
     simp only [pure_bind,invoke,Array.append_empty,hmap]
     exact hcf
    refine hgo.wp hen hrun fun e w' hp=>?_
    obtain ⟨u,v,ι',h',nx',rfl,hk,he,hne,hle,hv,hM,hn'⟩:=hp
    rw [forceK_eq,dstK_eq] at hk
    exact ⟨u,rfl,hK _ _ _ _ hk he (fun id hid _=>hne id hid) hle (hM.act (put_rel (hR.tm.mono he) o.dst hv) (by rw [Go.Ev.Act.put_defers];exact hR.df)) hn'⟩
  ·rename_i id hfe
   rw [hfe] at hfv
   generalize hfe2 : a.eval f = fv at hfv
   cases hfv with
   | yld _ p hp =>
   split at h
   ·rename_i tm ps assign body hg
    split at h
    ·rename_i hc
     simp only [Bool.and_eq_true] at hc
     obtain ⟨hsz,hna,hnb⟩:=hc
     have hsz':=Nat.eq_of_beq_eq_true hsz
     obtain ⟨p',hp',⟨r0,hh0,hs0,hpd0,rfl,rfl,rfl,htm0⟩,hB0⟩:=hR.obj id _ hg
     rw [hp] at hp'
     cases hp'
     have hrun : (execOp a.eval o).run P w = .ok (.round p.g r0.fn ((r0.params.zip (args.map a.eval)).foldl (fun t (p,v)=>t.setIfInBounds p v) r0.tmps) r0.assign r0.body) w:=by
      simp only [execOp,ho,resolve,hfe2,Deferred.ofValue]
      simp only [pure_bind,invoke,Array.empty_append]
      rw [run_yield hh0 (by rw [Array.size_map];exact hsz')]
     refine ⟨fun _ _=>trivial,?_⟩
     rw [semAt_of hrun (fun _ _ h=>by cases h) (fun _ _ h=>by cases h),Oper.uponIn_round]
     refine ⟨fun h=>(by cases h),roundIn_of_wpIn (F:=fen R) trivial ?_⟩
     have htm1 : MRels ι (zipPut r0.params.toList (mvals st.tm args.toList) tm) ((r0.params.zip (args.map a.eval)).foldl (fun t (p,v)=>t.setIfInBounds p v) r0.tmps).toList:=by
      have:=zipPut_rel r0.params.toList _ _ _ _ hargs htm0
      have e : r0.params.zip (args.map a.eval) = (r0.params.toList.zip (args.toList.map a.eval)).toArray:=by apply Array.ext';simp
      rw [e,List.foldl_toArray]
      exact this
     refine hRd p.g r0.assign ρ _ _ r B w0 w [] ι _ _ hna h (hR.mem.act (a:={ tmps:=_,defers:=[] }) htm1 rfl) hn fun e1 st1 a1 w1 ι1 hk1 hE1 hne1 hle1 hM1 hn1=>?_
     cases e1 with
     | normal =>
      simp only at hk1
      split at hk1
      ·rename_i tm' ps' assign' body' hg1
       rw [delK_eq] at hk1
       obtain ⟨p1,hp1,⟨r1,hh1,hs1,hpd1,rfl,rfl,rfl,htm1'⟩,hB1⟩:=hM1.obj id _ hg1
       have e1 : p1 = p:=by have:=hE1 id p hp;rw [hp1] at this;cases this;rfl
       subst e1
       obtain ⟨d1,d2,d3⟩:=del1_spec id hn1
       refine ⟨_,run_beginRound hh1 (by rw [hs1];rfl),?_⟩
       have hM1':=hM1.mod (o':=.loop true tm' r1.params r1.assign r1.body) hg1 hp1 (grown_put w1 p1.g (.loop { r1 with state:=.busy })) ⟨_,World.putObj_heap_same (hM1.lt id p1 hp1),rfl,hpd1,rfl,rfl,rfl,htm1'⟩
       have hM1b:=hM1'.look (h':=(id,.loop true tm' r1.params r1.assign r1.body) :: del1 st1.h id) fun i=>by
        rw [get_cons,get_set1,d1 i]
        by_cases e : i = id
        ·rw [if_pos e.symm,if_pos e]
        ·rw [if_neg (fun h=>e h.symm),if_neg e,if_neg e]
       have hn1b : (keys ((id,LObj.loop true tm' r1.params r1.assign r1.body) :: del1 st1.h id)).Nodup:=by
        simp only [keys,List.map_cons,List.nodup_cons]
        exact ⟨fun hx=>(d3 _ hx).2 rfl,d2⟩
       refine hRd p1.g r0.body ρ _ _ r B w0 _ [] ι1 a1 _ hnb hk1 hM1b hn1b fun e2 st2 a2 w2 ι2 hk2 hE2 hne2 hle2 hM2 hn2=>?_
       cases e2 with
       | normal =>
        simp only at hk2
        split at hk2
        ·rename_i tm'' ps'' assign'' body'' hg2
         rw [delK_eq,dstK_eq] at hk2
         obtain ⟨p2,hp2,⟨r2,hh2,hs2,hpd2,rfl,rfl,rfl,htm2'⟩,hB2⟩:=hM2.obj id _ hg2
         have e2 : p2 = p1:=by have:=hE2 id p1 hp1;rw [hp2] at this;cases this;rfl
         subst e2
         obtain ⟨c1,c2,c3⟩:=del1_spec id hn2
         refine ⟨.bool true,_,run_endRound none hh2,?_⟩
         have hM2':=hM2.mod (o':=.loop false tm'' r2.params r2.assign r2.body) hg2 hp2 (grown_put w2 p2.g (.loop { r2 with state:=.ready,pending:=none })) ⟨_,World.putObj_heap_same (hM2.lt id p2 hp2),rfl,rfl,rfl,rfl,rfl,htm2'⟩
         have hM2b:=hM2'.look (h':=(id,.loop false tm'' r2.params r2.assign r2.body) :: del1 st2.h id) fun i=>by
          rw [get_cons,get_set1,c1 i]
          by_cases e : i = id
          ·rw [if_pos e.symm,if_pos e]
          ·rw [if_neg (fun h=>e h.symm),if_neg e,if_neg e]
         have hle1' : st.nx ≤ st1.nx:=hle1
         have hle2' : st1.nx ≤ st2.nx:=hle2
         refine hK _ (a.put o.dst (.bool true)) _ ι2 hk2 (hE1.trans hE2) (fun i hi _=>(hne2 i (Nat.lt_of_lt_of_le hi hle1')).trans (hne1 i hi)) (Nat.le_trans hle1' hle2') ?_ ?_
         ·exact hM2b.mem.act (put_rel (hR.tm.mono (hE1.trans hE2)) o.dst (.bool true)) (by rw [Go.Ev.Act.put_defers];exact hR.df)
         ·show (keys ((id,LObj.loop false tm'' r2.params r2.assign r2.body) :: del1 st2.h id)).Nodup
          simp only [keys,List.map_cons,List.nodup_cons]
          exact ⟨fun hx=>(c3 _ hx).2 rfl,c2⟩
        ·cases hk2
       | exit i=>cases hk2
       | ret=>cases hk2
      ·cases hk1
     | exit i=>cases hk1
     | ret=>cases hk1
    ·cases h
   ·cases h
  ·cases h
 ·obtain ⟨e,hk,hD⟩:=evOp_sound hR hf hlt h
  exact done_wp hD hn (hR.notin hf) hk fun st' a' w' ι' h1 h2 h3 h4 h5 h6=>hK st' a' w' ι' h1 h2 (fun id _ hne=>h3 id hne) (Nat.le_of_eq h4.symm) h5 h6
theorem guard_at {ι : Io} {tm : List MV} {a : Act} (h : MRels ι tm a.tmps.toList) (ops : Array Oper) (j : Nat) :
  (∀ b,guardAt ops.toList tm j = .bool b → yielded ops a.tmps j = some b) ∧ (guardAt ops.toList tm j = .undef → yielded ops a.tmps j = none):=by
 unfold guardAt yielded
 simp only [Array.getElem?_toList]
 cases ho : ops[j]? with
 | none=>simp
 | some o =>
  simp only [Option.bind_some]
  cases hd : o.dst with
  | none=>simp
  | some d =>
   simp only [Option.bind_some,nth_eq]
   have hat : ∀ c,tm.getD d .unk = c → c ≠ .unk → ∃ u,a.tmps[d]? = some u ∧ MRel ι c u:=fun c hc hne=>by
    cases ht : tm[d]? with
    | none=>simp [List.getD,ht] at hc;exact absurd hc.symm hne
    | some c' =>
     simp [List.getD,ht] at hc
     subst hc
     obtain ⟨u,hu,hv⟩:=h.at_ ht
     exact ⟨u,by simpa using hu,hv⟩
   constructor
   ·intro b hb
    obtain ⟨u,hu,hv⟩:=hat _ hb (by simp)
    rw [hu,hv.bool_inv]
   ·intro hb
    obtain ⟨u,hu,hv⟩:=hat _ hb (by simp)
    rw [hu]
    cases hv
    rfl
theorem evOps_sound (hΓ : ∀ g F,find Γ g = some F → SumOK P g F) (hC : COK P call) (hRd : RDK P round) {ops : Array Oper} {base : Nat} {Q : Exit → Act → World → Prop} : ∀ (l : List Oper) (i : Nat) (st : MSt) (a : Act) (w : World) (ι : Io),evOps P Γ call round base ops.toList k i l st = some r → i + l.length = ops.size →
  Mrl B w0 w df ι st a → (keys st.h).Nodup → (∀ j,i ≤ j → j < ops.size → ι (base + j) = none) → base + ops.size ≤ st.nx →
  (∀ st' a' w' ι',k st' = some r → Ext ι ι' → (∀ id,id < base → ι' id = ι id) → st.nx ≤ st'.nx → Mrl B w0 w' df ι' st' a' → (keys st'.h).Nodup → Q .normal a' w') → wpListIn (fen R) 0 P ops Q l a w
 | [],_,st,a,w,ι,h,_,hR,hn,_,_,hQ=>hQ st a w ι h (Ext.refl _) (fun _ _=>rfl) (Nat.le_refl _) hR hn
 | o :: rest,i,st,a,w,ι,h,hl,hR,hn,hfree,hnx,hQ=>by
  have hi : i < ops.size:=by simp at hl;omega
  have hl' : i + 1 + rest.length = ops.size:=by simp at hl;omega
  have skip : evOps P Γ call round base ops.toList k (i + 1) rest ⟨putD st.tm o.dst .undef,st.h,st.nx⟩ = some r → wpListIn (fen R) 0 P ops Q rest (a.put o.dst undef) w:=fun hs =>
   evOps_sound hΓ hC hRd rest (i + 1) _ _ w ι hs hl' (hR.putA o.dst .undef fun _=>rfl) hn (fun j hj hj2=>hfree j (by omega) hj2) hnx hQ
  have run : stepM P Γ call round (base + i) o st (evOps P Γ call round base ops.toList k (i + 1) rest) = some r → ∀ K : Act → World → Prop,(∀ a w,wpListIn (fen R) 0 P ops Q rest a w → K a w) → o.wpR R P a w K Q:=fun hrun K hK =>
   stepM_sound hΓ hC hRd hR hn (hfree i (Nat.le_refl _) hi) (by omega) hrun fun st' a' w' ι' hk he hne hle hM hn'=>hK _ _ (evOps_sound hΓ hC hRd rest (i + 1) st' a' w' ι' hk hl' hM hn'
    (fun j hj hj2=>(hne (base + j) (by omega) (by omega)).trans (hfree j (by omega) hj2)) (by omega)
    fun st2 a2 w2 ι2 h1 h2 h3 h4 h5 h6=>hQ st2 a2 w2 ι2 h1 (he.trans h2) (fun id hid=>(h3 id hid).trans (hne id (by omega) (by omega))) (Nat.le_trans hle h4) h5 h6)
  refine wpListIn_step fun K hK=>?_
  simp only [evOps,natK_eq,skipK_eq] at h
  split at h
  ·rename_i hg
   simp only [Region.wanted,hg,if_true]
   exact run h K hK
  ·rename_i j want hg
   obtain ⟨hgb,hgu⟩:=guard_at hR.tm ops j
   simp only [Region.wanted,hg]
   split at h
   ·rename_i b hb
    rw [hgb b hb]
    cases hbw : (b == want) with
    | true =>
     simp only [hbw,cond_true] at h
     have hbe : b = want:=by simpa using hbw
     simp only [hbe,beq_self_eq_true,if_true]
     exact run h K hK
    | false =>
     simp only [hbw,cond_false,dstK_eq] at h
     have hbe : ¬ (some b == some want) = true:=by simpa using hbw
     rw [if_neg hbe]
     exact ⟨fun _ _=>trivial,hK _ _ (skip h)⟩
   ·rename_i hb
    rw [hgu hb,dstK_eq] at *
    have : ¬ ((none : Option Bool) == some want) = true:=by simp
    rw [if_neg this]
    exact ⟨fun _ _=>trivial,hK _ _ (skip h)⟩
   ·cases h
end step
end Go.Mi
