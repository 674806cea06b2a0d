/-
 envelope.Merge of recipients with one condition each.
-/
import Derived.Test.YtijdnecnjenleaaGreatDoorKnJ

namespace Go.Proofs.YtijdnecnjenleaaGreatDoor
open Go.Ev
noncomputable def invB (tab ms q : List AV) : Bool:=@decide (∃ U,Inv tab U ms q) (Classical.propDecidable _)
theorem invB_iff {tab ms q : List AV} : invB tab ms q = true ↔ ∃ U,Inv tab U ms q:=@decide_eq_true_iff _ (Classical.propDecidable _)
noncomputable def G92a : Env:={ pure:=[],opens:=[(54,ofX F54),(93,ofX F93)],ext:=[449],tmpX:=true,yld:=some (0,1,ofX FY0) }
theorem g92a : GOK Tryz.prog G92a:=GOK.flags (GOK.yields (GOK.alsoX (GOK.alsoX gE ok93) ok54) (by kernel_rfl) yok0)
def kp0 (ms0 : List AV) (s : List UInt8) : Bool:=!mpHas (.str s) ms0
theorem tgt_get {tab : List AV} {s : List UInt8} (h : tab.all nnB = true) (hh : mpHas (.str s) tab = true) : ((mpGet (.str s) tab).cells.headD .unk).toList = tgt tab s:=by
 obtain ⟨x,xs,e⟩:=nn_get h hh
 unfold tgt
 rw [hh,e]
 rfl
theorem tgt_none {tab : List AV} {s : List UInt8} (hh : mpHas (.str s) tab = false) : tgt tab s = []:=by
 unfold tgt
 rw [hh]
 rfl
noncomputable def b92 : Code:=((Tryz.f92.body.map loopsOf).getD []).headD .skip
noncomputable def L92a : List AV → List (Option Row) → Tr LOut
 | [.own 1125899906842624,.own 4294967297,.ptr 65 0,.ptr 128 0,.fn 93 [.ptr 65 0,.ptr 128 0]],[some (.box false rec),some (.box false [.int .i64 u1,.int .i64 u2]),some (.box false [.int .i64 u3,.int .i64 u4]),some (.box false [.own 1125899906842628]),some (.box false [.mpv ms0]),some (.box false [.own 901]),some (.box false [.mpv tab]),some (.box false [.mpv ms]),some (.box false [.own 64]),some (.box false [.own 900]),some (.arr false .str 9 q none),some (.arr false .str 9 out none)] =>
  .gd (all2 rk0 rec && (ms0.all nnB && (tab.all nnB && (decide (out.length + mu ms q ≤ 100000) && invB tab ms q)))) (.leaf (.exit 0,[.own 1125899906842624,.own 4294967297,.ptr 65 0,.ptr 128 0,.fn 93 [.ptr 65 0,.ptr 128 0]],[some (.box false rec),some (.box false [.int .i64 u1,.int .i64 u2]),some (.box false [.int .i64 u3,.int .i64 u4]),some (.box false [.own 1125899906842628]),some (.box false [.mpv ms0]),some (.box false [.own 901]),some (.box false [.mpv tab]),some (.box false [.mpv (run tab (kp0 ms0) ms q out).1]),some (.box false [.own 64]),some (.box false [.own 900]),some (.arr false .str 9 [] none),some (.arr false .str 9 (run tab (kp0 ms0) ms q out).2 none)]))
 | _,_=>.no
noncomputable def l92a : Ev.Loop:=⟨{ len:=33,slots:=[0,4,5,6,7],rows:=[1125899906842624,1125899906842625,1125899906842626,1125899906842627,1125899906842628,1125899906842629,4294967297,64,65,128,900,901],cells:=[(128,0,900,9),(1125899906842629,0,901,9)] },ofL L92a⟩
def μ92 (_ : List AV) (rs : List (Option Row)) : Nat:=match rs with
 | [_,_,_,_,_,_,_,some (.box _ [.mpv ms]),_,_,some (.arr _ _ _ q _),_]=>mu ms q
 | _=>0
theorem loop92a : LoopOK Tryz.prog G92a [(5,l92a)] b92 l92a:=by
 refine loopT g92a.natOK rfl (KOK.nil (by kernel_rfl)) μ92 (fun ρ vs rs k r h=>?_)
 unfold L92a at h
 split at h
 ·rename_i rec u1 u2 u3 u4 ms0 tab ms q out
  obtain ⟨hc,hk⟩:=gd_some h
  simp only [Bool.and_eq_true] at hc
  obtain ⟨hr,hm0,htab,hb,hI⟩:=hc
  have hb':=of_decide_eq_true hb
  obtain ⟨es1,a2,es3,fa4,fb5,fa6,fb7,b8,a9,b10,b11,es12,es13,a14,ts15,es16,ts17,hrec⟩:=rk0_spec hr
  rw [hrec]
  refine Eq.trans (b:=bif decide ((↑q.length : Int) > (0 : Int)) then bif inb (0 : Int) q.length then bif decide (Int.toNat (0 : Int) < q.length) then bif decide ((0 : Int) ≤ (1 : Int)) && decide ((1 : Int) ≤ (↑q.length : Int)) then bif (fun x=>PID + x) (0 : Nat) == PID && (all2 rk0 [AV.tup [AV.int .i64 0],AV.slv (Sh.agg [Sh.str,Sh.str.slice]) es1,AV.str a2,AV.undef,AV.undef,AV.slz Sh.str,AV.ptr 1125899906842625 (0 : Nat),AV.ptr 1125899906842626 (0 : Nat),AV.ptr 1125899906842627 (0 : Nat),AV.ptr 1125899906842629 (0 : Nat),AV.undef,AV.slv (Sh.agg [Sh.str,Sh.str.slice]) es3,AV.agg [AV.int .i64 fa4,AV.int .i64 fb5],AV.agg [AV.int .i64 fa6,AV.int .i64 fb7],AV.bool b8,AV.undef,AV.str a9,AV.bool b10,AV.bool b11,AV.undef,AV.slv (Sh.agg [Sh.str,Sh.str.slice]) es12,AV.own 1125899906842628,AV.slv (Sh.agg [Sh.str,Sh.str.slice]) es13,AV.str a14,AV.slv Sh.str ts15,AV.fn (92 : Nat) [AV.ref [AV.slv (Sh.agg [Sh.str,Sh.str.slice]) es16],AV.ref [AV.slv Sh.str ts17]],AV.undef,AV.undef,AV.undef,AV.undef,AV.undef,AV.undef,AV.undef,AV.undef,AV.undef,AV.undef,AV.undef] && (decide ((9 : Nat) = (9 : TypeId) ∧ out.length ≤ (1000000 : Nat)) && ms0.all nnB)) then bif mpHas (AV.str (pS (q.getD (0 : Nat) AV.unk))) ms0 then bif mpOK (shOf Tryz.prog depth (9 : Nat)) (shOf Tryz.prog depth (54 : Nat)) tab then bif mpHas (AV.str (pS (q.getD (0 : Nat) AV.unk))) tab then bif decide ((9 : Nat) = (9 : TypeId) ∧ (List.drop (Int.toNat (1 : Int)) q).length + ((mpGet (AV.str (pS (q.getD (0 : Nat) AV.unk))) tab).cells.headD AV.unk).toList.length ≤ (1000000 : Nat)) && ms.all trB then bif decide (mu (List.foldl fndE (ms,List.drop (Int.toNat (1 : Int)) q) ((mpGet (AV.str (pS (q.getD (0 : Nat) AV.unk))) tab).cells.headD AV.unk).toList).fst (List.foldl fndE (ms,List.drop (Int.toNat (1 : Int)) q) ((mpGet (AV.str (pS (q.getD (0 : Nat) AV.unk))) tab).cells.headD AV.unk).toList).snd < mu ms q) then bif all2 rk0 [AV.tup [AV.int .i64 0],AV.slv (Sh.agg [Sh.str,Sh.str.slice]) es1,AV.str a2,AV.undef,AV.undef,AV.slz Sh.str,AV.ptr 1125899906842625 (0 : Nat),AV.ptr 1125899906842626 (0 : Nat),AV.ptr 1125899906842627 (0 : Nat),AV.ptr 1125899906842629 (0 : Nat),AV.undef,AV.slv (Sh.agg [Sh.str,Sh.str.slice]) es3,AV.agg [AV.int .i64 fa4,AV.int .i64 fb5],AV.agg [AV.int .i64 fa6,AV.int .i64 fb7],AV.bool b8,AV.undef,AV.str a9,AV.bool b10,AV.bool b11,AV.undef,AV.slv (Sh.agg [Sh.str,Sh.str.slice]) es12,AV.own 1125899906842628,AV.slv (Sh.agg [Sh.str,Sh.str.slice]) es13,AV.str a14,AV.slv Sh.str ts15,AV.fn (92 : Nat) [AV.ref [AV.slv (Sh.agg [Sh.str,Sh.str.slice]) es16],AV.ref [AV.slv Sh.str ts17]],AV.undef,AV.undef,AV.undef,AV.undef,AV.undef,AV.undef,AV.undef,AV.undef,AV.undef,AV.undef,AV.undef] && (ms0.all nnB && (tab.all nnB && (decide (out.length + mu (List.foldl fndE (ms,List.drop (Int.toNat (1 : Int)) q) ((mpGet (AV.str (pS (q.getD (0 : Nat) AV.unk))) tab).cells.headD AV.unk).toList).fst (List.foldl fndE (ms,List.drop (Int.toNat (1 : Int)) q) ((mpGet (AV.str (pS (q.getD (0 : Nat) AV.unk))) tab).cells.headD AV.unk).toList).snd ≤ (100000 : Nat)) && invB tab (List.foldl fndE (ms,List.drop (Int.toNat (1 : Int)) q) ((mpGet (AV.str (pS (q.getD (0 : Nat) AV.unk))) tab).cells.headD AV.unk).toList).fst (List.foldl fndE (ms,List.drop (Int.toNat (1 : Int)) q) ((mpGet (AV.str (pS (q.getD (0 : Nat) AV.unk))) tab).cells.headD AV.unk).toList).snd))) then k (Ex.exit (0 : Nat)) [AV.own 1125899906842624,AV.own 4294967297,AV.ptr 65 (0 : Nat),AV.ptr 128 (0 : Nat),AV.fn (93 : Nat) [AV.ptr 65 (0 : Nat),AV.ptr 128 (0 : Nat)]] [some (Row.box false [AV.tup [AV.int .i64 0],AV.slv (Sh.agg [Sh.str,Sh.str.slice]) es1,AV.str a2,AV.undef,AV.undef,AV.slz Sh.str,AV.ptr 1125899906842625 (0 : Nat),AV.ptr 1125899906842626 (0 : Nat),AV.ptr 1125899906842627 (0 : Nat),AV.ptr 1125899906842629 (0 : Nat),AV.undef,AV.slv (Sh.agg [Sh.str,Sh.str.slice]) es3,AV.agg [AV.int .i64 fa4,AV.int .i64 fb5],AV.agg [AV.int .i64 fa6,AV.int .i64 fb7],AV.bool b8,AV.undef,AV.str a9,AV.bool b10,AV.bool b11,AV.undef,AV.slv (Sh.agg [Sh.str,Sh.str.slice]) es12,AV.own 1125899906842628,AV.slv (Sh.agg [Sh.str,Sh.str.slice]) es13,AV.str a14,AV.slv Sh.str ts15,AV.fn (92 : Nat) [AV.ref [AV.slv (Sh.agg [Sh.str,Sh.str.slice]) es16],AV.ref [AV.slv Sh.str ts17]],AV.undef,AV.undef,AV.undef,AV.undef,AV.undef,AV.undef,AV.undef,AV.undef,AV.undef,AV.undef,AV.undef]),some (Row.box false [AV.int .i64 u1,AV.int .i64 u2]),some (Row.box false [AV.int .i64 u3,AV.int .i64 u4]),some (Row.box false [AV.own 1125899906842628]),some (Row.box false [AV.mpv ms0]),some (Row.box false [AV.own 901]),some (Row.box false [AV.mpv tab]),some (Row.box false [AV.mpv (run tab (kp0 ms0) (List.foldl fndE (ms,List.drop (Int.toNat (1 : Int)) q) ((mpGet (AV.str (pS (q.getD (0 : Nat) AV.unk))) tab).cells.headD AV.unk).toList).fst (List.foldl fndE (ms,List.drop (Int.toNat (1 : Int)) q) ((mpGet (AV.str (pS (q.getD (0 : Nat) AV.unk))) tab).cells.headD AV.unk).toList).snd out).fst]),some (Row.box false [AV.own 64]),some (Row.box false [AV.own 900]),some (Row.arr false Sh.str 9 [] none),some (Row.arr false Sh.str 9 (run tab (kp0 ms0) (List.foldl fndE (ms,List.drop (Int.toNat (1 : Int)) q) ((mpGet (AV.str (pS (q.getD (0 : Nat) AV.unk))) tab).cells.headD AV.unk).toList).fst (List.foldl fndE (ms,List.drop (Int.toNat (1 : Int)) q) ((mpGet (AV.str (pS (q.getD (0 : Nat) AV.unk))) tab).cells.headD AV.unk).toList).snd out).snd none)] else none else none else none else bif decide (mu ms (List.drop (Int.toNat (1 : Int)) q) < mu ms q) then bif all2 rk0 [AV.tup [AV.int .i64 0],AV.slv (Sh.agg [Sh.str,Sh.str.slice]) es1,AV.str a2,AV.undef,AV.undef,AV.slz Sh.str,AV.ptr 1125899906842625 (0 : Nat),AV.ptr 1125899906842626 (0 : Nat),AV.ptr 1125899906842627 (0 : Nat),AV.ptr 1125899906842629 (0 : Nat),AV.undef,AV.slv (Sh.agg [Sh.str,Sh.str.slice]) es3,AV.agg [AV.int .i64 fa4,AV.int .i64 fb5],AV.agg [AV.int .i64 fa6,AV.int .i64 fb7],AV.bool b8,AV.undef,AV.str a9,AV.bool b10,AV.bool b11,AV.undef,AV.slv (Sh.agg [Sh.str,Sh.str.slice]) es12,AV.own 1125899906842628,AV.slv (Sh.agg [Sh.str,Sh.str.slice]) es13,AV.str a14,AV.slv Sh.str ts15,AV.fn (92 : Nat) [AV.ref [AV.slv (Sh.agg [Sh.str,Sh.str.slice]) es16],AV.ref [AV.slv Sh.str ts17]],AV.undef,AV.undef,AV.undef,AV.undef,AV.undef,AV.undef,AV.undef,AV.undef,AV.undef,AV.undef,AV.undef] && (ms0.all nnB && (tab.all nnB && (decide (out.length + mu ms (List.drop (Int.toNat (1 : Int)) q) ≤ (100000 : Nat)) && invB tab ms (List.drop (Int.toNat (1 : Int)) q)))) then k (Ex.exit (0 : Nat)) [AV.own 1125899906842624,AV.own 4294967297,AV.ptr 65 (0 : Nat),AV.ptr 128 (0 : Nat),AV.fn (93 : Nat) [AV.ptr 65 (0 : Nat),AV.ptr 128 (0 : Nat)]] [some (Row.box false [AV.tup [AV.int .i64 0],AV.slv (Sh.agg [Sh.str,Sh.str.slice]) es1,AV.str a2,AV.undef,AV.undef,AV.slz Sh.str,AV.ptr 1125899906842625 (0 : Nat),AV.ptr 1125899906842626 (0 : Nat),AV.ptr 1125899906842627 (0 : Nat),AV.ptr 1125899906842629 (0 : Nat),AV.undef,AV.slv (Sh.agg [Sh.str,Sh.str.slice]) es3,AV.agg [AV.int .i64 fa4,AV.int .i64 fb5],AV.agg [AV.int .i64 fa6,AV.int .i64 fb7],AV.bool b8,AV.undef,AV.str a9,AV.bool b10,AV.bool b11,AV.undef,AV.slv (Sh.agg [Sh.str,Sh.str.slice]) es12,AV.own 1125899906842628,AV.slv (Sh.agg [Sh.str,Sh.str.slice]) es13,AV.str a14,AV.slv Sh.str ts15,AV.fn (92 : Nat) [AV.ref [AV.slv (Sh.agg [Sh.str,Sh.str.slice]) es16],AV.ref [AV.slv Sh.str ts17]],AV.undef,AV.undef,AV.undef,AV.undef,AV.undef,AV.undef,AV.undef,AV.undef,AV.undef,AV.undef,AV.undef]),some (Row.box false [AV.int .i64 u1,AV.int .i64 u2]),some (Row.box false [AV.int .i64 u3,AV.int .i64 u4]),some (Row.box false [AV.own 1125899906842628]),some (Row.box false [AV.mpv ms0]),some (Row.box false [AV.own 901]),some (Row.box false [AV.mpv tab]),some (Row.box false [AV.mpv (run tab (kp0 ms0) ms (List.drop (Int.toNat (1 : Int)) q) out).fst]),some (Row.box false [AV.own 64]),some (Row.box false [AV.own 900]),some (Row.arr false Sh.str 9 [] none),some (Row.arr false Sh.str 9 (run tab (kp0 ms0) ms (List.drop (Int.toNat (1 : Int)) q) out).snd none)] else none else none else none else bif mpOK (shOf Tryz.prog depth (9 : Nat)) (shOf Tryz.prog depth (54 : Nat)) tab then bif mpHas (AV.str (pS (q.getD (0 : Nat) AV.unk))) tab then bif decide ((9 : Nat) = (9 : TypeId) ∧ (List.drop (Int.toNat (1 : Int)) q).length + ((mpGet (AV.str (pS (q.getD (0 : Nat) AV.unk))) tab).cells.headD AV.unk).toList.length ≤ (1000000 : Nat)) && ms.all trB then bif decide (mu (List.foldl fndE (ms,List.drop (Int.toNat (1 : Int)) q) ((mpGet (AV.str (pS (q.getD (0 : Nat) AV.unk))) tab).cells.headD AV.unk).toList).fst (List.foldl fndE (ms,List.drop (Int.toNat (1 : Int)) q) ((mpGet (AV.str (pS (q.getD (0 : Nat) AV.unk))) tab).cells.headD AV.unk).toList).snd < mu ms q) then bif all2 rk0 [AV.tup [AV.int .i64 0],AV.slv (Sh.agg [Sh.str,Sh.str.slice]) es1,AV.str a2,AV.undef,AV.undef,AV.slz Sh.str,AV.ptr 1125899906842625 (0 : Nat),AV.ptr 1125899906842626 (0 : Nat),AV.ptr 1125899906842627 (0 : Nat),AV.ptr 1125899906842629 (0 : Nat),AV.undef,AV.slv (Sh.agg [Sh.str,Sh.str.slice]) es3,AV.agg [AV.int .i64 fa4,AV.int .i64 fb5],AV.agg [AV.int .i64 fa6,AV.int .i64 fb7],AV.bool b8,AV.undef,AV.str a9,AV.bool b10,AV.bool b11,AV.undef,AV.slv (Sh.agg [Sh.str,Sh.str.slice]) es12,AV.own 1125899906842628,AV.slv (Sh.agg [Sh.str,Sh.str.slice]) es13,AV.str a14,AV.slv Sh.str ts15,AV.fn (92 : Nat) [AV.ref [AV.slv (Sh.agg [Sh.str,Sh.str.slice]) es16],AV.ref [AV.slv Sh.str ts17]],AV.undef,AV.undef,AV.undef,AV.undef,AV.undef,AV.undef,AV.undef,AV.undef,AV.undef,AV.undef,AV.undef] && (ms0.all nnB && (tab.all nnB && (decide ((out ++ [AV.str (pS (q.getD (0 : Nat) AV.unk))]).length + mu (List.foldl fndE (ms,List.drop (Int.toNat (1 : Int)) q) ((mpGet (AV.str (pS (q.getD (0 : Nat) AV.unk))) tab).cells.headD AV.unk).toList).fst (List.foldl fndE (ms,List.drop (Int.toNat (1 : Int)) q) ((mpGet (AV.str (pS (q.getD (0 : Nat) AV.unk))) tab).cells.headD AV.unk).toList).snd ≤ (100000 : Nat)) && invB tab (List.foldl fndE (ms,List.drop (Int.toNat (1 : Int)) q) ((mpGet (AV.str (pS (q.getD (0 : Nat) AV.unk))) tab).cells.headD AV.unk).toList).fst (List.foldl fndE (ms,List.drop (Int.toNat (1 : Int)) q) ((mpGet (AV.str (pS (q.getD (0 : Nat) AV.unk))) tab).cells.headD AV.unk).toList).snd))) then k (Ex.exit (0 : Nat)) [AV.own 1125899906842624,AV.own 4294967297,AV.ptr 65 (0 : Nat),AV.ptr 128 (0 : Nat),AV.fn (93 : Nat) [AV.ptr 65 (0 : Nat),AV.ptr 128 (0 : Nat)]] [some (Row.box false [AV.tup [AV.int .i64 0],AV.slv (Sh.agg [Sh.str,Sh.str.slice]) es1,AV.str a2,AV.undef,AV.undef,AV.slz Sh.str,AV.ptr 1125899906842625 (0 : Nat),AV.ptr 1125899906842626 (0 : Nat),AV.ptr 1125899906842627 (0 : Nat),AV.ptr 1125899906842629 (0 : Nat),AV.undef,AV.slv (Sh.agg [Sh.str,Sh.str.slice]) es3,AV.agg [AV.int .i64 fa4,AV.int .i64 fb5],AV.agg [AV.int .i64 fa6,AV.int .i64 fb7],AV.bool b8,AV.undef,AV.str a9,AV.bool b10,AV.bool b11,AV.undef,AV.slv (Sh.agg [Sh.str,Sh.str.slice]) es12,AV.own 1125899906842628,AV.slv (Sh.agg [Sh.str,Sh.str.slice]) es13,AV.str a14,AV.slv Sh.str ts15,AV.fn (92 : Nat) [AV.ref [AV.slv (Sh.agg [Sh.str,Sh.str.slice]) es16],AV.ref [AV.slv Sh.str ts17]],AV.undef,AV.undef,AV.undef,AV.undef,AV.undef,AV.undef,AV.undef,AV.undef,AV.undef,AV.undef,AV.undef]),some (Row.box false [AV.int .i64 u1,AV.int .i64 u2]),some (Row.box false [AV.int .i64 u3,AV.int .i64 u4]),some (Row.box false [AV.own 1125899906842628]),some (Row.box false [AV.mpv ms0]),some (Row.box false [AV.own 901]),some (Row.box false [AV.mpv tab]),some (Row.box false [AV.mpv (run tab (kp0 ms0) (List.foldl fndE (ms,List.drop (Int.toNat (1 : Int)) q) ((mpGet (AV.str (pS (q.getD (0 : Nat) AV.unk))) tab).cells.headD AV.unk).toList).fst (List.foldl fndE (ms,List.drop (Int.toNat (1 : Int)) q) ((mpGet (AV.str (pS (q.getD (0 : Nat) AV.unk))) tab).cells.headD AV.unk).toList).snd (out ++ [AV.str (pS (q.getD (0 : Nat) AV.unk))])).fst]),some (Row.box false [AV.own 64]),some (Row.box false [AV.own 900]),some (Row.arr false Sh.str 9 [] none),some (Row.arr false Sh.str 9 (run tab (kp0 ms0) (List.foldl fndE (ms,List.drop (Int.toNat (1 : Int)) q) ((mpGet (AV.str (pS (q.getD (0 : Nat) AV.unk))) tab).cells.headD AV.unk).toList).fst (List.foldl fndE (ms,List.drop (Int.toNat (1 : Int)) q) ((mpGet (AV.str (pS (q.getD (0 : Nat) AV.unk))) tab).cells.headD AV.unk).toList).snd (out ++ [AV.str (pS (q.getD (0 : Nat) AV.unk))])).snd none)] else none else none else none else bif decide (mu ms (List.drop (Int.toNat (1 : Int)) q) < mu ms q) then bif all2 rk0 [AV.tup [AV.int .i64 0],AV.slv (Sh.agg [Sh.str,Sh.str.slice]) es1,AV.str a2,AV.undef,AV.undef,AV.slz Sh.str,AV.ptr 1125899906842625 (0 : Nat),AV.ptr 1125899906842626 (0 : Nat),AV.ptr 1125899906842627 (0 : Nat),AV.ptr 1125899906842629 (0 : Nat),AV.undef,AV.slv (Sh.agg [Sh.str,Sh.str.slice]) es3,AV.agg [AV.int .i64 fa4,AV.int .i64 fb5],AV.agg [AV.int .i64 fa6,AV.int .i64 fb7],AV.bool b8,AV.undef,AV.str a9,AV.bool b10,AV.bool b11,AV.undef,AV.slv (Sh.agg [Sh.str,Sh.str.slice]) es12,AV.own 1125899906842628,AV.slv (Sh.agg [Sh.str,Sh.str.slice]) es13,AV.str a14,AV.slv Sh.str ts15,AV.fn (92 : Nat) [AV.ref [AV.slv (Sh.agg [Sh.str,Sh.str.slice]) es16],AV.ref [AV.slv Sh.str ts17]],AV.undef,AV.undef,AV.undef,AV.undef,AV.undef,AV.undef,AV.undef,AV.undef,AV.undef,AV.undef,AV.undef] && (ms0.all nnB && (tab.all nnB && (decide ((out ++ [AV.str (pS (q.getD (0 : Nat) AV.unk))]).length + mu ms (List.drop (Int.toNat (1 : Int)) q) ≤ (100000 : Nat)) && invB tab ms (List.drop (Int.toNat (1 : Int)) q)))) then k (Ex.exit (0 : Nat)) [AV.own 1125899906842624,AV.own 4294967297,AV.ptr 65 (0 : Nat),AV.ptr 128 (0 : Nat),AV.fn (93 : Nat) [AV.ptr 65 (0 : Nat),AV.ptr 128 (0 : Nat)]] [some (Row.box false [AV.tup [AV.int .i64 0],AV.slv (Sh.agg [Sh.str,Sh.str.slice]) es1,AV.str a2,AV.undef,AV.undef,AV.slz Sh.str,AV.ptr 1125899906842625 (0 : Nat),AV.ptr 1125899906842626 (0 : Nat),AV.ptr 1125899906842627 (0 : Nat),AV.ptr 1125899906842629 (0 : Nat),AV.undef,AV.slv (Sh.agg [Sh.str,Sh.str.slice]) es3,AV.agg [AV.int .i64 fa4,AV.int .i64 fb5],AV.agg [AV.int .i64 fa6,AV.int .i64 fb7],AV.bool b8,AV.undef,AV.str a9,AV.bool b10,AV.bool b11,AV.undef,AV.slv (Sh.agg [Sh.str,Sh.str.slice]) es12,AV.own 1125899906842628,AV.slv (Sh.agg [Sh.str,Sh.str.slice]) es13,AV.str a14,AV.slv Sh.str ts15,AV.fn (92 : Nat) [AV.ref [AV.slv (Sh.agg [Sh.str,Sh.str.slice]) es16],AV.ref [AV.slv Sh.str ts17]],AV.undef,AV.undef,AV.undef,AV.undef,AV.undef,AV.undef,AV.undef,AV.undef,AV.undef,AV.undef,AV.undef]),some (Row.box false [AV.int .i64 u1,AV.int .i64 u2]),some (Row.box false [AV.int .i64 u3,AV.int .i64 u4]),some (Row.box false [AV.own 1125899906842628]),some (Row.box false [AV.mpv ms0]),some (Row.box false [AV.own 901]),some (Row.box false [AV.mpv tab]),some (Row.box false [AV.mpv (run tab (kp0 ms0) ms (List.drop (Int.toNat (1 : Int)) q) (out ++ [AV.str (pS (q.getD (0 : Nat) AV.unk))])).fst]),some (Row.box false [AV.own 64]),some (Row.box false [AV.own 900]),some (Row.arr false Sh.str 9 [] none),some (Row.arr false Sh.str 9 (run tab (kp0 ms0) ms (List.drop (Int.toNat (1 : Int)) q) (out ++ [AV.str (pS (q.getD (0 : Nat) AV.unk))])).snd none)] else none else none else none else none else none else none else none else k (Ex.exit (0 : Nat)) [AV.own 1125899906842624,AV.own 4294967297,AV.ptr 65 (0 : Nat),AV.ptr 128 (0 : Nat),AV.fn (93 : Nat) [AV.ptr 65 (0 : Nat),AV.ptr 128 (0 : Nat)]] [some (Row.box false [AV.tup [AV.int .i64 0],AV.slv (Sh.agg [Sh.str,Sh.str.slice]) es1,AV.str a2,AV.undef,AV.undef,AV.slz Sh.str,AV.ptr 1125899906842625 (0 : Nat),AV.ptr 1125899906842626 (0 : Nat),AV.ptr 1125899906842627 (0 : Nat),AV.ptr 1125899906842629 (0 : Nat),AV.undef,AV.slv (Sh.agg [Sh.str,Sh.str.slice]) es3,AV.agg [AV.int .i64 fa4,AV.int .i64 fb5],AV.agg [AV.int .i64 fa6,AV.int .i64 fb7],AV.bool b8,AV.undef,AV.str a9,AV.bool b10,AV.bool b11,AV.undef,AV.slv (Sh.agg [Sh.str,Sh.str.slice]) es12,AV.own 1125899906842628,AV.slv (Sh.agg [Sh.str,Sh.str.slice]) es13,AV.str a14,AV.slv Sh.str ts15,AV.fn (92 : Nat) [AV.ref [AV.slv (Sh.agg [Sh.str,Sh.str.slice]) es16],AV.ref [AV.slv Sh.str ts17]],AV.undef,AV.undef,AV.undef,AV.undef,AV.undef,AV.undef,AV.undef,AV.undef,AV.undef,AV.undef,AV.undef]),some (Row.box false [AV.int .i64 u1,AV.int .i64 u2]),some (Row.box false [AV.int .i64 u3,AV.int .i64 u4]),some (Row.box false [AV.own 1125899906842628]),some (Row.box false [AV.mpv ms0]),some (Row.box false [AV.own 901]),some (Row.box false [AV.mpv tab]),some (Row.box false [AV.mpv ms]),some (Row.box false [AV.own 64]),some (Row.box false [AV.own 900]),some (Row.arr false Sh.str 9 q none),some (Row.arr false Sh.str 9 out none)]) (by kernel_rfl) ?_
  rw [← hk,← hrec]
  obtain ⟨U,hU⟩:=invB_iff.1 hI
  cases q with
  | nil=>rw [run_nil];rfl
  | cons x q =>
   obtain ⟨h1,h2⟩:=hU.step
   have hl : q.length ≤ 100000:=by unfold mu at hb';rw [List.length_cons] at hb';omega
   have hf:=hU.few (pS x)
   have e1 : decide (((x :: q).length : Int) > 0) = true:=decide_eq_true (by rw [List.length_cons];omega)
   have e2 : inb 0 (x :: q).length = true:=inb_true (by omega) (by rw [List.length_cons];omega)
   have e3 : decide (Int.toNat 0 < (x :: q).length) = true:=decide_eq_true (by rw [List.length_cons];show 0 < _;omega)
   have e4 : (decide ((0 : Int) ≤ 1) && decide ((1 : Int) ≤ ((x :: q).length : Int))) = true:=and_t rfl (decide_eq_true (by rw [List.length_cons];omega))
   have e5 : decide (True ∧ out.length ≤ 1000000) = true:=decide_eq_true ⟨trivial,by omega⟩
   have e6 : mpOK .str (.slice .str) tab = true:=nn_ok htab
   have e7 : (((fun x=>PID + x) 0 : Nat) == PID) = true:=by kernel_rfl
   have e8 : (x :: q).getD 0 .unk = x:=rfl
   have e9 : (x :: q).drop (Int.toNat 1) = q:=rfl
   have e10:=invB_iff.2 ⟨U,h1⟩
   have e11:=hU.tr
   have e12 : decide (True ∧ q.length + (tgt tab (pS x)).length ≤ 1000000) = true:=decide_eq_true ⟨trivial,by omega⟩
   have e13 : decide (mu ((tgt tab (pS x)).foldl fndE (ms,q)).1 ((tgt tab (pS x)).foldl fndE (ms,q)).2 < mu ms (x :: q)) = true:=decide_eq_true (by omega)
   have e14 : decide (out.length + mu ((tgt tab (pS x)).foldl fndE (ms,q)).1 ((tgt tab (pS x)).foldl fndE (ms,q)).2 ≤ 100000) = true:=decide_eq_true (by omega)
   have e15 : decide ((out ++ [AV.str (pS x)]).length + mu ((tgt tab (pS x)).foldl fndE (ms,q)).1 ((tgt tab (pS x)).foldl fndE (ms,q)).2 ≤ 100000) = true:=decide_eq_true (by rw [List.length_append,List.length_singleton];omega)
   have f10:=invB_iff.2 ⟨U,hU.tail⟩
   have fm : mu ms q + 1 = mu ms (x :: q):=by unfold mu;rw [List.length_cons];omega
   have f13 : decide (mu ms q < mu ms (x :: q)) = true:=decide_eq_true (by omega)
   have f14 : decide (out.length + mu ms q ≤ 100000) = true:=decide_eq_true (by omega)
   have f15 : decide ((out ++ [AV.str (pS x)]).length + mu ms q ≤ 100000) = true:=decide_eq_true (by rw [List.length_append,List.length_singleton];omega)
   rw [run_cons (kp0 ms0) out hU]
   simp only [e1,e2,e3,e4,e5,e6,e7,e8,e9,hr,hm0,htab,sh9,sh54,cond_true,Bool.and_self]
   cases ha : mpHas (.str (pS x)) ms0 with
   | true =>
    have ek : kp0 ms0 (pS x) = false:=by unfold kp0;rw [ha];rfl
    rw [ek,cond_false,cond_true]
    cases hbb : mpHas (.str (pS x)) tab with
    | true =>
     rw [tgt_get htab hbb]
     simp only [e10,e11,e12,e13,e14,cond_true,Bool.and_self]
     rfl
    | false =>
     rw [tgt_none hbb]
     simp only [List.foldl_nil,f10,f13,f14,cond_true,cond_false,Bool.and_self]
     rfl
   | false =>
    have ek : kp0 ms0 (pS x) = true:=by unfold kp0;rw [ha];rfl
    rw [ek,cond_false,cond_true]
    cases hbb : mpHas (.str (pS x)) tab with
    | true =>
     rw [tgt_get htab hbb]
     simp only [e10,e11,e12,e13,e15,cond_true,Bool.and_self]
     rfl
    | false =>
     rw [tgt_none hbb]
     simp only [List.foldl_nil,f10,f13,f15,cond_true,cond_false,Bool.and_self]
     rfl
 ·cases h
end Go.Proofs.YtijdnecnjenleaaGreatDoor


namespace Go.Proofs.YtijdnecnjenleaaGreatDoor
open Go.Ev
def goE (e : AV) : Bool:=decide (1 ≤ (pT e).length) && decide ((pT e).length ≤ 60)
theorem nn_put {ms : List AV} {s : List UInt8} {x : AV} {xs : List AV} (h : ms.all nnB = true) : (mpPut (.str s) (.slv .str (x :: xs)) ms).all nnB = true:=by
 unfold mpPut
 cases mpHas (.str s) ms with
 | false=>rw [cond_false,List.all_append,h];rfl
 | true =>
  rw [cond_true]
  have : ∀ (ms : List AV) (n : Nat),ms.all nnB = true → (mpSet (.slv .str (x :: xs)) ms n).all nnB = true:=by
   intro ms
   induction ms with
   | nil=>intro n _;cases n <;> rfl
   | cons e ms ih =>
    intro n hn
    simp only [List.all_cons,Bool.and_eq_true] at hn
    cases n with
    | zero =>
     simp only [mpSet,List.all_cons,Bool.and_eq_true]
     refine ⟨?_,hn.2⟩
     have h1:=hn.1
     unfold nnB at h1
     split at h1
     ·rfl
     ·cases h1
    | succ n =>
     simp only [mpSet,List.all_cons,Bool.and_eq_true]
     exact ⟨hn.1,ih n hn.2⟩
  exact this _ _ h
theorem nn_key {e : AV} (h : nnB e = true) : ∃ k x xs,e = .tup [.str k,.slv .str (x :: xs)]:=by
 unfold nnB at h
 split at h
 ·exact ⟨_,_,_,rfl⟩
 ·cases h
theorem tgt_cons (k : List UInt8) (x : AV) (xs ms : List AV) (t : List UInt8) : tgt (.tup [.str k,.slv .str (x :: xs)] :: ms) t = bif t == k then x :: xs else tgt ms t:=by
 unfold tgt
 rw [mpHas,mpGet]
 have e : keyB (.str t) (mpKey (.tup [.str k,.slv .str (x :: xs)])) = (t == k):=rfl
 rw [e]
 cases t == k
 ·rw [Bool.false_or,cond_false,cond_false]
 ·rw [Bool.true_or,cond_true,cond_true,cond_true]
  rfl
theorem tgt_put : ∀ {ms : List AV} (s : List UInt8) (x : AV) (xs : List AV) (t : List UInt8),ms.all nnB = true → tgt (mpPut (.str s) (.slv .str (x :: xs)) ms) t = bif t == s then x :: xs else tgt ms t
 | [],s,x,xs,t,_=>tgt_cons s x xs [] t
 | e :: ms,s,x,xs,t,h=>by
  simp only [List.all_cons,Bool.and_eq_true] at h
  obtain ⟨k,y,ys,rfl⟩:=nn_key h.1
  have ih:=tgt_put (ms:=ms) s x xs t h.2
  unfold mpPut at ih ⊢
  rw [mpHas,mpIdx]
  have e1 : keyB (.str s) (mpKey (.tup [.str k,.slv .str (y :: ys)])) = (s == k):=rfl
  rw [e1]
  cases hk : s == k with
  | true =>
   obtain rfl:=eq_of_beq hk
   rw [Bool.true_or,cond_true,cond_true]
   show tgt (.tup [.str s,.slv .str (x :: xs)] :: ms) t = _
   rw [tgt_cons,tgt_cons]
   cases t == s <;> rfl
  | false =>
   rw [Bool.false_or,cond_false]
   have hst : ∀ {a : Bool},(t == s) = true → (t == k) = false:=fun ht=>by
    have:=eq_of_beq ht
    subst this
    exact hk
   cases hm : mpHas (.str s) ms with
   | true =>
    rw [hm,cond_true] at ih
    rw [cond_true,mpSet,tgt_cons,tgt_cons,ih]
    cases ht : t == s with
    | true=>rw [hst (a:=true) ht];rfl
    | false=>rfl
   | false =>
    rw [hm,cond_false] at ih
    rw [cond_false,List.cons_append,tgt_cons,tgt_cons,ih]
    cases ht : t == s with
    | true=>rw [hst (a:=true) ht];rfl
    | false=>rfl
theorem tab_fold : ∀ (es ms : List AV),es.all goE = true → ms.all nnB = true → (es.foldl putE ms).all nnB = true ∧ ∀ t,tgt (es.foldl putE ms) t = tgt ms t ∨ ∃ e ∈ es,tgt (es.foldl putE ms) t = pT e
 | [],ms,_,h=>⟨h,fun t=>.inl rfl⟩
 | e :: es,ms,hg,h=>by
  simp only [List.all_cons,Bool.and_eq_true] at hg
  obtain ⟨x,xs,hx⟩ : ∃ x xs,pT e = x :: xs:=by
   have:=hg.1
   unfold goE at this
   rw [Bool.and_eq_true] at this
   have:=of_decide_eq_true this.1
   cases hp : pT e with
   | nil=>rw [hp] at this;exact absurd this (by show ¬ 1 ≤ 0;omega)
   | cons x xs=>exact ⟨x,xs,rfl⟩
  have hp : putE ms e = mpPut (.str (pS e)) (.slv .str (x :: xs)) ms:=by unfold putE;rw [hx]
  obtain ⟨h1,h2⟩:=tab_fold es (putE ms e) hg.2 (by rw [hp];exact nn_put h)
  rw [List.foldl_cons]
  refine ⟨h1,fun t=>?_⟩
  rcases h2 t with h3 | ⟨e',he',h3⟩
  ·rw [h3,hp,tgt_put _ _ _ _ h]
   cases t == pS e with
   | true=>exact .inr ⟨e,List.mem_cons_self,hx.symm⟩
   | false=>exact .inl rfl
  ·exact .inr ⟨e',List.mem_cons_of_mem _ he',h3⟩
theorem tab_spec {es : List AV} (h : es.all goE = true) : (tabE es).all nnB = true ∧ ∀ t,tgt (tabE es) t = [] ∨ ∃ e ∈ es,tgt (tabE es) t = pT e:=by
 obtain ⟨h1,h2⟩:=tab_fold es [] h rfl
 exact ⟨h1,fun t=>by
  rcases h2 t with h3 | h3
  ·exact .inl h3
  ·exact .inr h3⟩
def univ (es : List AV) (a : List UInt8) : List (List UInt8):=a :: es.flatMap fun e=>(pT e).map pS
theorem flat_len : ∀ (es : List AV),es.all goE = true → (es.flatMap fun e=>(pT e).map pS).length ≤ 60 * es.length
 | [],_=>Nat.zero_le _
 | e :: es,h=>by
  simp only [List.all_cons,Bool.and_eq_true] at h
  have h1:=h.1
  unfold goE at h1
  rw [Bool.and_eq_true] at h1
  have:=of_decide_eq_true h1.2
  have:=flat_len es h.2
  rw [List.flatMap_cons,List.length_append,List.length_map,List.length_cons]
  omega
def ms1 (a : List UInt8) : List AV:=[.tup [.str a,.bool true]]
def q1 (a : List UInt8) : List AV:=[.str a]
theorem inv_start {es : List AV} (a : List UInt8) (hl : es.length ≤ 40) (h : es.all goE = true) : Inv (tabE es) (univ es a) (ms1 a) (q1 a):={
 size:=by
  have:=flat_len es h
  unfold univ
  rw [List.length_cons]
  omega
 tr:=rfl
 nodup:=by simp [ms1]
 met:=fun k hk=>by
  have : k = a:=List.mem_singleton.1 hk
  subst this
  exact List.mem_cons_self
 row:=fun x hx=>by
  have : x = .str a:=List.mem_singleton.1 hx
  subst this
  exact List.mem_cons_self
 closed:=fun s hs t ht=>by
  rcases (tab_spec h).2 s with h3 | ⟨e,he,h3⟩
  ·rw [h3] at ht;cases ht
  ·rw [h3] at ht
   exact List.mem_cons_of_mem _ (List.mem_flatMap.2 ⟨e,he,List.mem_map.2 ⟨t,ht,rfl⟩⟩)
 few:=fun s=>by
  rcases (tab_spec h).2 s with h3 | ⟨e,he,h3⟩
  ·rw [h3];exact Nat.zero_le _
  ·rw [h3]
   have h1:=List.all_eq_true.1 h e he
   unfold goE at h1
   rw [Bool.and_eq_true] at h1
   have:=of_decide_eq_true h1.2
   omega }
theorem vd_good {es : List AV} (h : vdC es = 0) : es.length ≤ 40 ∧ ∀ e ∈ es,adB (pS e) = true ∧ goE e = true ∧ ∀ t ∈ pT e,adB (pS t) = true:=by
 unfold vdC at h
 by_cases h40 : (es.length : Int) > 40
 ·rw [decide_eq_true h40] at h;cases h
 rw [decide_eq_false h40,cond_false] at h
 refine ⟨by omega,fun e he=>?_⟩
 cases hf : fV es with
 | some q =>
  rw [hf] at h
  obtain ⟨_,_,h3,_⟩:=findN_some hf
  unfold badA at h3
  rw [show ftC es es q = 0 from h] at h3
  cases h3
 | none =>
  obtain ⟨i,hi,rfl⟩:=List.getElem_of_mem he
  have h3:=findN_none hf i (Nat.zero_le _) hi
  have hg : es.getD i .unk = es[i]:=by rw [List.getD,List.getElem?_eq_getElem hi];rfl
  unfold badA ftC at h3
  rw [hg] at h3
  cases h4 : adB (pS es[i]) with
  | false=>rw [h4] at h3;cases h3
  | true =>
   rw [h4] at h3
   cases h5 : lnB es[i] with
   | true=>rw [h5] at h3;cases h3
   | false =>
    rw [h5] at h3
    by_cases h6 : iZ (fA (pT es[i]) 0) ≥ 0
    ·rw [decide_eq_true h6] at h3;cases h3
    ·refine ⟨rfl,?_,fun t ht=>?_⟩
     ·unfold lnB at h5
      by_cases h7 : ((pT es[i]).length : Int) < 1
      ·rw [decide_eq_true h7] at h5;cases h5
      ·rw [decide_eq_false h7,cond_false] at h5
       have h8:=of_decide_eq_false h5
       exact and_t (decide_eq_true (by omega)) (decide_eq_true (by omega))
     ·cases h9 : fA (pT es[i]) 0 with
      | some n=>rw [h9] at h6;exact absurd (Int.natCast_nonneg n) h6
      | none =>
       obtain ⟨j,hj,rfl⟩:=List.getElem_of_mem ht
       have h10:=findN_none h9 j (Nat.zero_le _) hj
       unfold noA at h10
       rw [List.getD,List.getElem?_eq_getElem hj] at h10
       simpa using h10
end Go.Proofs.YtijdnecnjenleaaGreatDoor


namespace Go.Proofs.YtijdnecnjenleaaGreatDoor
open Go.Ev
noncomputable def F92a : List AV → List Row → Tr XOut
 | [.own p,.ref [.slv (.agg [.str,.slice .str]) es],.ref [.slv .str [.str a]]],[.box false rec,.box false [.int .i64 u1,.int .i64 u2],.box false [.int .i64 u3,.int .i64 u4],.box false [.own 1125899906842628],.box false [.mpv ms0],.box false [.slz .str]] =>
  .gd (p == PID && (all2 rk0 rec && (ms0.all nnB && (small es.length && ((tabE es).all nnB && invB (tabE es) (ms1 a) (q1 a))))))
   (.leaf (.tup [],[some (.box false rec),some (.box false [.int .i64 u1,.int .i64 u2]),some (.box false [.int .i64 u3,.int .i64 u4]),some (.box false [.own 1125899906842628]),some (.box false [.mpv ms0]),some (.box false [.own RID])],[.arr false .str 9 (run (tabE es) (kp0 ms0) (ms1 a) (q1 a) []).2 none]))
 | _,_=>.no
theorem ok92a : XOK Tryz.prog 92 (ofX F92a) ∧ XNat (ofX F92a):=by
 refine ⟨xsum1 (K:=[(5,l92a)]) (b:=b92) (l:=l92a) (H:=[]) g92a Tryz.func92 (by kernel_rfl) (by kernel_rfl) loop92a fun ρ avs rows k r h=>?_,xnat_ofX F92a⟩
 have h' : (F92a avs rows).run (fun q=>k q.1 q.2.1 q.2.2) = some r:=h
 unfold F92a at h'
 split at h'
 ·rename_i p es a rec u1 u2 u3 u4 ms0
  obtain ⟨hc,hk⟩:=gd_some h'
  simp only [Bool.and_eq_true] at hc
  obtain ⟨hp,hr,hm0,hes,htab,hI⟩:=hc
  obtain rfl : p = PID:=by simpa using hp
  refine ⟨by simp,fun rows' hsp=>?_⟩
  obtain rfl : rows' = [.box false rec,.box false [.int .i64 u1,.int .i64 u2],.box false [.int .i64 u3,.int .i64 u4],.box false [.own 1125899906842628],.box false [.mpv ms0],.box false [.slz .str]]:=by
   match rows',hsp with
   | [r1,r2,r3,r4,r5,r6],⟨h1,h2,h3,h4,h5,h6,_⟩=>rw [h1,h2,h3,h4,h5,h6]
  obtain ⟨es1,a2,es3,fa4,fb5,fa6,fb7,b8,a9,b10,b11,es12,es13,a14,ts15,es16,ts17,hrec⟩:=rk0_spec hr
  rw [hrec]
  refine Eq.trans (b:=bif small es.length then bif all2 rk0 [AV.tup [AV.int .i64 0],AV.slv (Sh.agg [Sh.str,Sh.str.slice]) es1,AV.str a2,AV.undef,AV.undef,AV.slz Sh.str,AV.ptr 1125899906842625 (0 : Nat),AV.ptr 1125899906842626 (0 : Nat),AV.ptr 1125899906842627 (0 : Nat),AV.ptr 1125899906842629 (0 : Nat),AV.undef,AV.slv (Sh.agg [Sh.str,Sh.str.slice]) es3,AV.agg [AV.int .i64 fa4,AV.int .i64 fb5],AV.agg [AV.int .i64 fa6,AV.int .i64 fb7],AV.bool b8,AV.undef,AV.str a9,AV.bool b10,AV.bool b11,AV.undef,AV.slv (Sh.agg [Sh.str,Sh.str.slice]) es12,AV.own 1125899906842628,AV.slv (Sh.agg [Sh.str,Sh.str.slice]) es13,AV.str a14,AV.slv Sh.str ts15,AV.fn (92 : Nat) [AV.ref [AV.slv (Sh.agg [Sh.str,Sh.str.slice]) es16],AV.ref [AV.slv Sh.str ts17]],AV.undef,AV.undef,AV.undef,AV.undef,AV.undef,AV.undef,AV.undef,AV.undef,AV.undef,AV.undef,AV.undef] && (ms0.all nnB && ((tabE es).all nnB && (decide (([] : List AV).length + mu [AV.tup [AV.str (pS (AV.str a)),AV.bool true]] [AV.str (pS (AV.str a))] ≤ (100000 : Nat)) && invB (tabE es) [AV.tup [AV.str (pS (AV.str a)),AV.bool true]] [AV.str (pS (AV.str a))]))) then k (AV.tup []) [some (Row.box false [AV.tup [AV.int .i64 0],AV.slv (Sh.agg [Sh.str,Sh.str.slice]) es1,AV.str a2,AV.undef,AV.undef,AV.slz Sh.str,AV.ptr 1125899906842625 (0 : Nat),AV.ptr 1125899906842626 (0 : Nat),AV.ptr 1125899906842627 (0 : Nat),AV.ptr 1125899906842629 (0 : Nat),AV.undef,AV.slv (Sh.agg [Sh.str,Sh.str.slice]) es3,AV.agg [AV.int .i64 fa4,AV.int .i64 fb5],AV.agg [AV.int .i64 fa6,AV.int .i64 fb7],AV.bool b8,AV.undef,AV.str a9,AV.bool b10,AV.bool b11,AV.undef,AV.slv (Sh.agg [Sh.str,Sh.str.slice]) es12,AV.own 1125899906842628,AV.slv (Sh.agg [Sh.str,Sh.str.slice]) es13,AV.str a14,AV.slv Sh.str ts15,AV.fn (92 : Nat) [AV.ref [AV.slv (Sh.agg [Sh.str,Sh.str.slice]) es16],AV.ref [AV.slv Sh.str ts17]],AV.undef,AV.undef,AV.undef,AV.undef,AV.undef,AV.undef,AV.undef,AV.undef,AV.undef,AV.undef,AV.undef]),some (Row.box false [AV.int .i64 u1,AV.int .i64 u2]),some (Row.box false [AV.int .i64 u3,AV.int .i64 u4]),some (Row.box false [AV.own 1125899906842628]),some (Row.box false [AV.mpv ms0]),some (Row.box false [AV.own 2251799813685248])] [Row.arr false Sh.str 9 (run (tabE es) (kp0 ms0) [AV.tup [AV.str (pS (AV.str a)),AV.bool true]] [AV.str (pS (AV.str a))] []).snd none] else none else none) (by kernel_rfl) ?_
  rw [← hk,← hrec]
  have e2 : decide (([] : List AV).length + mu [.tup [.str a,.bool true]] [.str a] ≤ 100000) = true:=rfl
  have e3 : decide (([AV.str a] : List AV).length ≤ 1000000) = true:=rfl
  have ea : pS (AV.str a) = a:=rfl
  have hI' : invB (tabE es) [.tup [.str a,.bool true]] [.str a] = true:=hI
  simp only [ea,hes,htab,hm0,hr,hI',e2,cond_true,Bool.and_self]
  rfl
 ·cases h'
noncomputable def G14 : Env:={ pure:=[(27,ofT F27),(29,ofT F29),(39,ofT F39),(52,ofT F52),(53,ofT F53),(55,ofT F55)],opens:=[(54,ofX F54),(92,ofX F92a)],rng:=[(10,0,5000)] }
theorem g14 : GOK Tryz.prog G14:=GOK.flags (GOK.alsoX (GOK.alsoX (GOK.also (GOK.also (GOK.also (GOK.also (GOK.also (GOK.also gE ok55) ok53) ok52) ok39) ok29) ok27) ok92a) ok54)
theorem rng_one {Γ : Env} {fn : Func} {n site : Nat} {key : Int} {q : Array Tmp × Code × Code} (h : fn.body.map rngsOf = some [q]) (hf : Γ.rng = [(n,key,site)]) (hq : q = loopCode key) : ∀ c,fn.body = some c → RngOK Γ none c:=by
 intro c hc q' hq' key' site' he
 rw [hc] at h
 simp only [Option.map_some,Option.some.injEq] at h
 rw [h,List.mem_singleton] at hq'
 subst hq'
 rw [hf] at he
 unfold findIn at he
 split at he
 ·simp only [Option.some.injEq,Prod.mk.injEq] at he
  obtain ⟨rfl,rfl⟩:=he
  exact ⟨rfl,hq⟩
 ·cases he
theorem rng14 : (Tryz.f14.body.map rngsOf) = some [loopCode 0]:=by kernel_rfl
def exR (es : List AV) (a : List UInt8) : List AV:=(run (tabE es) (kp0 (tabE es)) (ms1 a) (q1 a) []).2
def F14 : List AV → Tr AV
 | [.slv (.agg [.str,.slice .str]) es,.str a]=>.gd (small es.length && (es.all aOK && smallS a.length)) (.br (vdC es != 0) (.leaf (.tup [.slv .str [],.agg [.int .i64 (vdC es),.int .i64 (vdP es)]])) (.br (!adB a) (.leaf (.tup [.slv .str [],.agg [.int .i64 10,.int .i64 (-2)]])) (.leaf (.tup [.slv .str (exR es a),.agg [.int .i64 0,.int .i64 0]]))))
 | _=>.no
theorem ok14 : SumOK Tryz.prog 14 (ofT F14) ∧ SNat (ofT F14):=by
 refine ⟨sumOK_ofR g14 (drawOK g14 (by kernel_rfl)) Tryz.func14 (fun ρ avs k r h=>⟨[],fun c hc=>KOK.nil (by
   have h1 : Tryz.f14.body.map loopsOf = some []:=by kernel_rfl
   rw [hc] at h1
   simpa using h1),?_⟩) (rng_one rng14 rfl rfl),snat_ofT _⟩
 change (F14 avs).run k = some r at h
 unfold F14 at h
 split at h
 ·rename_i es a
  obtain ⟨hc,hk⟩:=gd_some h
  simp only [Bool.and_eq_true] at hc
  obtain ⟨h1,h2,h3⟩:=hc
  refine Eq.trans (b:=bif small es.length && es.all aOK then bif vdC es != 0 then k (AV.tup [AV.slv Sh.str [],AV.agg [AV.int .i64 (vdC es),AV.int .i64 (vdP es)]]) else bif smallS a.length then bif !adB a then k (AV.tup [AV.slv Sh.str [],AV.agg [AV.int .i64 10,AV.int .i64 (-2 : Int)]]) else bif small es.length then bif (fun x=>PID + x) (0 : Nat) == PID && (all2 rk0 [AV.tup [AV.int .i64 0],AV.slv (Sh.agg [Sh.str,Sh.str.slice]) es,AV.str a,AV.undef,AV.undef,AV.slz Sh.str,AV.ptr 1125899906842625 (0 : Nat),AV.ptr 1125899906842626 (0 : Nat),AV.ptr 1125899906842627 (0 : Nat),AV.ptr 1125899906842629 (0 : Nat),AV.undef,AV.slv (Sh.agg [Sh.str,Sh.str.slice]) es,AV.agg [AV.int .i64 (vdC es),AV.int .i64 (vdP es)],AV.agg [AV.int .i64 (vdC es),AV.int .i64 (vdP es)],AV.bool (vdC es != 0),AV.undef,AV.str a,AV.bool (adB a),AV.bool !adB a,AV.undef,AV.slv (Sh.agg [Sh.str,Sh.str.slice]) es,AV.own 1125899906842628,AV.slv (Sh.agg [Sh.str,Sh.str.slice]) es,AV.str a,AV.slv Sh.str [AV.str a],AV.fn (92 : Nat) [AV.ref [AV.slv (Sh.agg [Sh.str,Sh.str.slice]) es],AV.ref [AV.slv Sh.str [AV.str a]]],AV.undef,AV.undef,AV.undef,AV.undef,AV.undef,AV.undef,AV.undef,AV.undef,AV.undef,AV.undef,AV.undef] && ((tabE es).all nnB && (small es.length && ((tabE es).all nnB && invB (tabE es) [AV.tup [AV.str a,AV.bool true]] [AV.str a])))) then k (AV.tup [AV.slv Sh.str (run (tabE es) (kp0 (tabE es)) [AV.tup [AV.str a,AV.bool true]] [AV.str a] []).snd,AV.agg [AV.int .i64 0,AV.int .i64 0]]) else none else none else none else none) (by kernel_rfl) ?_
  rw [← hk,h1,h2,h3]
  by_cases hv : vdC es = 0
  ·obtain ⟨g1,g2⟩:=vd_good hv
   have g3 : es.all goE = true:=List.all_eq_true.2 fun e he=>(g2 e he).2.1
   have g4:=(tab_spec g3).1
   have g5 : invB (tabE es) [.tup [.str a,.bool true]] [.str a] = true:=invB_iff.2 ⟨_,inv_start a g1 g3⟩
   have g6 : (vdC es != 0) = false:=by rw [hv];rfl
   simp only [g4,g5,g6,Bool.and_self,cond_true,cond_false]
   cases adB a with
   | false=>rfl
   | true=>refine Eq.symm (Eq.symm ?_);kernel_rfl
  ·have g6 : (vdC es != 0) = true:=bne_iff_ne.2 hv
   rw [g6]
   rfl
 ·cases h
end Go.Proofs.YtijdnecnjenleaaGreatDoor


namespace Go.Proofs.YtijdnecnjenleaaGreatDoor
open Go.Ev
abbrev sF : Sh:=.agg [.str,.slice .str,.bool]
def pB (e : AV) : Bool:=(e.cells.tail.tail.headD .unk).toBool
def alE (e : AV) : AV:=.agg [.str (pS e),.slv .str (pT e)]
def wtF (n : Nat) : Bool:=decide (n * 41 ≤ 140737488351232)
noncomputable def b56 : Code:=((Tryz.f56.body.map loopsOf).getD []).headD .skip
def L56 : List AV → List (Option Row) → Tr LOut
 | [.own 900,.slv (.agg [.str,.slice .str,.bool]) es,.int .i64 n,.int .i64 i],[some (.arr false (.agg [.str,.slice .str]) e out none)] =>
  .gd (cnt n i es.length && (decide (e = 159 ∧ out.length ≤ i.toNat) && wtF es.length)) (.leaf (.exit 0,[.own 900,.slv sF es,.int .i64 n,.int .i64 es.length],[some (.arr false sA e (out ++ (es.drop i.toNat).map alE) none)]))
 | _,_=>.no
def l56 : Ev.Loop:=⟨{ len:=22,slots:=[3,6,7,8],rows:=[900],homes:=[(3,900,159)] },ofL L56⟩
def μ56 (vs : List AV) (_ : List (Option Row)) : Nat:=match vs with
 | [_,_,.int _ n,.int _ i]=>(n - i).toNat
 | _=>0
theorem room159 {n : Nat} (h : n * 41 ≤ 140737488351232) : roomB n (Tryz.prog.bytesOf 159) = true:=by
 have h9 : Tryz.prog.bytesOf 159 = 40:=by kernel_rfl
 rw [h9]
 unfold roomB
 have h1 : n * 40 ≤ 140737488355328:=by omega
 have h2 : n ≤ 4611686018427387904:=by omega
 rw [decide_eq_true h1,decide_eq_true h2]
 rfl
theorem loop56 : LoopOK Tryz.prog G0 [(3,l56)] b56 l56:=by
 refine loopT gE.natOK rfl (KOK.nil (by kernel_rfl)) μ56 (fun ρ vs rs k r h=>?_)
 unfold L56 at h
 split at h
 ·rename_i es n i e out
  obtain ⟨hc,hk⟩:=gd_some h
  simp only [Bool.and_eq_true] at hc
  obtain ⟨hc,hb,hw⟩:=hc
  obtain ⟨rfl,ho⟩:=of_decide_eq_true hb
  have hw':=of_decide_eq_true hw
  obtain ⟨rfl,hs,j,rfl,hj⟩:=cnt_spec hc
  rw [Int.toNat_natCast] at hk ho
  refine Eq.trans (b:=bif decide ((↑j : Int) < (↑es.length : Int)) then bif inb (↑j : Int) es.length then bif roomB (out.length + [AV.agg [AV.str (pS (es.getD j AV.unk)),AV.slv Sh.str (pT (es.getD j AV.unk))]].length) (Tryz.prog.bytesOf 159) then bif decide (((↑es.length : Int) - IntKind.i64.wrap ((↑j : Int) + (1 : Int))).toNat < ((↑es.length : Int) - (↑j : Int)).toNat) then bif cnt (↑es.length : Int) (IntKind.i64.wrap ((↑j : Int) + (1 : Int))) es.length && (decide ((159 : Nat) = (159 : TypeId) ∧ (out ++ [AV.agg [AV.str (pS (es.getD j AV.unk)),AV.slv Sh.str (pT (es.getD j AV.unk))]]).length ≤ (IntKind.i64.wrap ((↑j : Int) + (1 : Int))).toNat) && wtF es.length) then k (Ex.exit (0 : Nat)) [AV.own 900,AV.slv (Sh.agg [Sh.str,Sh.str.slice,Sh.bool]) es,AV.int .i64 (↑es.length : Int),AV.int .i64 (↑es.length : Int)] [some (Row.arr false (Sh.agg [Sh.str,Sh.str.slice]) 159 (out ++ [AV.agg [AV.str (pS (es.getD j AV.unk)),AV.slv Sh.str (pT (es.getD j AV.unk))]] ++ List.map alE (List.drop (IntKind.i64.wrap ((↑j : Int) + (1 : Int))).toNat es)) none)] else none else none else none else none else k (Ex.exit (0 : Nat)) [AV.own 900,AV.slv (Sh.agg [Sh.str,Sh.str.slice,Sh.bool]) es,AV.int .i64 (↑es.length : Int),AV.int .i64 (↑j : Int)] [some (Row.arr false (Sh.agg [Sh.str,Sh.str.slice]) 159 out none)]) (by kernel_rfl) ?_
  rw [← hk]
  by_cases hlt : j < es.length
  ·obtain ⟨e1,e2,e3,e4,e5⟩:=cnt_facts hlt hs
   have e6 : ∀ x : AV,roomB (out.length + ([x] : List AV).length) (Tryz.prog.bytesOf 159) = true:=fun x=>room159 (by rw [List.length_singleton];omega)
   have e7 : ∀ x : AV,decide (True ∧ (out ++ [x]).length ≤ j + 1) = true:=fun x=>decide_eq_true ⟨trivial,by rw [List.length_append,List.length_singleton];omega⟩
   have e8 : out ++ (es.drop j).map alE = out ++ [alE (es.getD j .unk)] ++ (es.drop (j + 1)).map alE:=by
    rw [List.drop_eq_getElem_cons hlt,List.map_cons,List.getD,List.getElem?_eq_getElem hlt,List.append_assoc]
    rfl
   rw [e8]
   simp only [e1,e2,e3,e4,e5,e6,e7,hw,cond_true,Int.toNat_natCast,Bool.and_self]
   rfl
  ·obtain rfl : j = es.length:=by omega
   rw [decide_eq_false (by omega),List.drop_length,List.map_nil,List.append_nil]
   rfl
 ·cases h
def F56 : List AV → Tr AV
 | [.slv (.agg [.str,.slice .str,.bool]) es]=>.gd (small es.length && wtF es.length) (.leaf (.slv sA (es.map alE)))
 | _=>.no
theorem ok56 : SumOK Tryz.prog 56 (ofT F56) ∧ SNat (ofT F56):=by
 refine fn1 (K:=[(3,l56)]) (b:=b56) (l:=l56) gE Tryz.func56 (by kernel_rfl) (by kernel_rfl) loop56 fun ρ avs k r h=>?_
 unfold F56 at h
 split at h
 ·rename_i es
  obtain ⟨hc,hk⟩:=gd_some h
  simp only [Bool.and_eq_true] at hc
  refine Eq.trans (b:=bif cnt (↑es.length : Int) (0 : Int) es.length && (decide (((3 : Nat),(900 : Nat),(159 : TypeId)).snd.snd = (159 : TypeId) ∧ ([] : List AV).length ≤ Int.toNat (0 : Int)) && wtF es.length) then k (AV.slv (Sh.agg [Sh.str,Sh.str.slice]) ([] ++ List.map alE (List.drop (0 : Nat) es))) else none) (by kernel_rfl) ?_
  rw [← hk,cnt_zero hc.1,hc.2]
  rfl
 ·cases h
noncomputable def G15 : Env:={ pure:=[(52,ofT F52),(56,ofT F56)] }
theorem g15 : GOK Tryz.prog G15:=GOK.also (GOK.also gE ok56) ok52
theorem aOK_map : ∀ {es : List AV},es.all aOK = true → (es.map alE).all aOK = true
 | [],_=>rfl
 | e :: es,h=>by
  simp only [List.all_cons,List.map_cons,Bool.and_eq_true] at h ⊢
  exact ⟨h.1,aOK_map h.2⟩
def F15 : List AV → Tr AV
 | [.slv (.agg [.str,.slice .str,.bool]) es]=>.gd (small es.length && (wtF es.length && es.all aOK)) (.leaf (.agg [.int .i64 (vdC (es.map alE)),.int .i64 (vdP (es.map alE))]))
 | _=>.no
theorem ok15 : SumOK Tryz.prog 15 (ofT F15) ∧ SNat (ofT F15):=by
 refine fn0 g15 Tryz.func15 (by kernel_rfl) fun ρ avs k r h=>?_
 unfold F15 at h
 split at h
 ·rename_i es
  obtain ⟨hc,hk⟩:=gd_some h
  simp only [Bool.and_eq_true] at hc
  obtain ⟨h1,h2,h3⟩:=hc
  refine Eq.trans (b:=bif small es.length && wtF es.length then bif small (List.map alE es).length && (List.map alE es).all aOK then k (AV.agg [AV.int .i64 (vdC (List.map alE es)),AV.int .i64 (vdP (List.map alE es))]) else none else none) (by kernel_rfl) ?_
  have e1 : small (es.map alE).length = true:=by rw [List.length_map];exact h1
  rw [← hk,h1,h2,e1,aOK_map h3]
  rfl
 ·cases h
noncomputable def G94 : Env:={ pure:=[(95,evF Tryz.prog G0 [] Tryz.f95)] }
theorem g94 : GOK Tryz.prog G94:=GOK.also gE (inl gE Tryz.func95 (by kernel_rfl))
noncomputable def b94 : Code:=((Tryz.f94.body.map loopsOf).getD []).headD .skip
def L94 : List AV → List (Option Row) → Tr LOut
 | [.slv (.agg [.str,.slice .str,.bool]) es,.fn 95 [.ref [.str d]],.int .i64 z,.int .i64 n,.int .i64 i],[] =>
  .gd (cnt n i es.length) (sT (fun i=>isA d (es.getD i .unk)) es.length (fun q=>.leaf (.ret,[.slv sF es,.fn 95 [.ref [.str d]],.int .i64 (q : Nat),.int .i64 es.length,.int .i64 (q : Nat)],[]))
   (.leaf (.exit 0,[.slv sF es,.fn 95 [.ref [.str d]],.int .i64 z,.int .i64 es.length,.int .i64 es.length],[])) i.toNat)
 | _,_=>.no
def l94 : Ev.Loop:=⟨{ len:=19,slots:=[0,1,4,7,8] },ofL L94⟩
theorem loop94 : LoopOK Tryz.prog G94 [(2,l94)] b94 l94:=by
 refine loopT g94.natOK rfl (KOK.nil (by kernel_rfl)) μ131 (fun ρ vs rs k r h=>?_)
 unfold L94 at h
 split at h
 ·rename_i es d z n i
  obtain ⟨hc,hk⟩:=gd_some h
  obtain ⟨rfl,hs,j,rfl,hj⟩:=cnt_spec hc
  rw [Int.toNat_natCast] at hk
  refine Eq.trans (b:=bif decide ((↑j : Int) < (↑es.length : Int)) then bif inb (↑j : Int) es.length then bif (pS (es.getD j AV.unk)) == d then k Ex.ret [AV.slv (Sh.agg [Sh.str,Sh.str.slice,Sh.bool]) es,AV.fn (95 : Nat) [AV.ref [AV.str d]],AV.int .i64 (↑j : Int),AV.int .i64 (↑es.length : Int),AV.int .i64 (↑j : Int)] [] else bif decide (((↑es.length : Int) - IntKind.i64.wrap ((↑j : Int) + (1 : Int))).toNat < ((↑es.length : Int) - (↑j : Int)).toNat) then bif cnt (↑es.length : Int) (IntKind.i64.wrap ((↑j : Int) + (1 : Int))) es.length then bif (findN (fun i=>isA d (es.getD i AV.unk)) es.length (IntKind.i64.wrap ((↑j : Int) + (1 : Int))).toNat).isSome then k Ex.ret [AV.slv (Sh.agg [Sh.str,Sh.str.slice,Sh.bool]) es,AV.fn (95 : Nat) [AV.ref [AV.str d]],AV.int .i64 (↑((findN (fun i=>isA d (es.getD i AV.unk)) es.length (IntKind.i64.wrap ((↑j : Int) + (1 : Int))).toNat).getD (0 : Nat)) : Int),AV.int .i64 (↑es.length : Int),AV.int .i64 (↑((findN (fun i=>isA d (es.getD i AV.unk)) es.length (IntKind.i64.wrap ((↑j : Int) + (1 : Int))).toNat).getD (0 : Nat)) : Int)] [] else k (Ex.exit (0 : Nat)) [AV.slv (Sh.agg [Sh.str,Sh.str.slice,Sh.bool]) es,AV.fn (95 : Nat) [AV.ref [AV.str d]],AV.int .i64 z,AV.int .i64 (↑es.length : Int),AV.int .i64 (↑es.length : Int)] [] else none else none else none else k (Ex.exit (0 : Nat)) [AV.slv (Sh.agg [Sh.str,Sh.str.slice,Sh.bool]) es,AV.fn (95 : Nat) [AV.ref [AV.str d]],AV.int .i64 z,AV.int .i64 (↑es.length : Int),AV.int .i64 (↑j : Int)] []) (by kernel_rfl) ?_
  rw [← hk]
  by_cases hlt : j < es.length
  ·obtain ⟨e1,e2,e3,e4,e5⟩:=cnt_facts hlt hs
   rw [sT_step _ _ _ _ _ hlt]
   have e7 : isA d (es.getD j .unk) = (pS (es.getD j .unk) == d):=rfl
   simp only [e1,e2,e3,e4,e5,e7,cond_true,Int.toNat_natCast]
   generalize (pS (es.getD j .unk) == d) = a1
   cases a1 <;> rfl
  ·obtain rfl : j = es.length:=by omega
   rw [decide_eq_false (by omega),sT_end]
   rfl
 ·cases h
def F94 : List AV → Tr AV
 | [.slv (.agg [.str,.slice .str,.bool]) es,.fn 95 [.ref [.str d]]]=>.gd (small es.length) (.leaf (.int .i64 (iZ (fB d es 0))))
 | _=>.no
theorem ok94 : SumOK Tryz.prog 94 (ofT F94) ∧ SNat (ofT F94):=by
 refine fn1 (K:=[(2,l94)]) (b:=b94) (l:=l94) g94 Tryz.func94 (by kernel_rfl) (by kernel_rfl) loop94 fun ρ avs k r h=>?_
 unfold F94 at h
 split at h
 ·rename_i es d
  obtain ⟨hc,hk⟩:=gd_some h
  refine Eq.trans (b:=bif cnt (↑es.length : Int) (0 : Int) es.length then bif (findN (fun i=>isA d (es.getD i AV.unk)) es.length (0 : Nat)).isSome then k (AV.int .i64 (↑((findN (fun i=>isA d (es.getD i AV.unk)) es.length (0 : Nat)).getD (0 : Nat)) : Int)) else k (AV.int .i64 (-1 : Int)) else none) (by kernel_rfl) ?_
  rw [← hk,cnt_zero hc]
  show (bif true then bif (fB d es 0).isSome then k (.int .i64 (((fB d es 0).getD 0 : Nat) : Int)) else k (.int .i64 (-1)) else none) = _
  cases fB d es 0 <;> rfl
 ·cases h
noncomputable def G57 : Env:={ pure:=[(94,ofT F94)] }
theorem g57 : GOK Tryz.prog G57:=GOK.also gE ok94
def F57 : List AV → Tr AV
 | [.slv (.agg [.str,.slice .str,.bool]) es,.str d]=>.gd (small es.length) (.leaf (.int .i64 (iZ (fB d es 0))))
 | _=>.no
theorem ok57 : SumOK Tryz.prog 57 (ofT F57) ∧ SNat (ofT F57):=by
 refine fn0 g57 Tryz.func57 (by kernel_rfl) fun ρ avs k r h=>?_
 unfold F57 at h
 split at h
 ·rename_i es d
  obtain ⟨hc,hk⟩:=gd_some h
  refine Eq.trans (b:=bif small es.length then k (AV.int .i64 (iZ (fB d es (0 : Nat)))) else none) (by kernel_rfl) ?_
  rw [← hk,hc]
  rfl
 ·cases h
end Go.Proofs.YtijdnecnjenleaaGreatDoor


namespace Go.Proofs.YtijdnecnjenleaaGreatDoor
open Go.Ev
noncomputable def GY1 : Env:={ pure:=[(57,ofT F57)] }
theorem gY1 : GOK Tryz.prog GY1:=GOK.also gE ok57
def kp1 (fs : List AV) (s : List UInt8) : Bool:=bif decide (iZ (fB s fs 0) < 0) then true else pB (fs.getD (iZ (fB s fs 0)).toNat .unk)
theorem iZ_in {fs : List AV} {s : List UInt8} (h : ¬ iZ (fB s fs 0) < 0) : ∃ n : Nat,iZ (fB s fs 0) = n ∧ n < fs.length:=by
 cases hf : fB s fs 0 with
 | none=>rw [hf] at h;exact absurd (by decide) h
 | some n=>exact ⟨n,rfl,(findN_some hf).2.1⟩
def FY1 : List AV → List Row → Tr XOut
 | [.own p,.str s],[.box false rec,.box false [.slv (.agg [.str,.slice .str,.bool]) fs],.box false [.int .i64 u1,.int .i64 u2],.box false [.int .i64 u3,.int .i64 u4],.box false [.own 1125899906842629],.arr false .str e9 out none] =>
  .gd (p == PID && (all2 rk1 rec && (decide (e9 = 9 ∧ out.length ≤ 1000000) && small fs.length))) (.br (kp1 fs s)
   (.leaf (.bool true,[some (.box false rec),some (.box false [.slv (.agg [.str,.slice .str,.bool]) fs]),some (.box false [.int .i64 u1,.int .i64 u2]),some (.box false [.int .i64 u3,.int .i64 u4]),some (.box false [.own RID]),none],[.arr false .str 9 (out ++ [.str s]) none]))
   (.leaf (.bool true,[some (.box false rec),some (.box false [.slv (.agg [.str,.slice .str,.bool]) fs]),some (.box false [.int .i64 u1,.int .i64 u2]),some (.box false [.int .i64 u3,.int .i64 u4]),some (.box false [.own 1125899906842629]),some (.arr false .str e9 out none)],[])))
 | _,_=>.no
theorem yok1 : YOK Tryz.prog 1 (ofX FY1) ∧ XNat (ofX FY1):=by
 refine ⟨yok_of gY1 (drawOK gY1 (by kernel_rfl)) rfl (q:=loopCode 1) rfl (KOK.nil (by kernel_rfl)) (KOK.nil (by kernel_rfl)) (K:=[]) fun ρ avs rows k r h=>?_,xnat_ofX FY1⟩
 have h' : (FY1 avs rows).run (fun q=>k q.1 q.2.1 q.2.2) = some r:=h
 unfold FY1 at h'
 split at h'
 ·rename_i p s rec fs u1 u2 u3 u4 e9 out
  obtain ⟨hc,hk⟩:=gd_some h'
  simp only [Bool.and_eq_true] at hc
  obtain ⟨hp,hr,hb0,hm⟩:=hc
  obtain rfl : p = PID:=by simpa using hp
  obtain ⟨rfl,hb⟩:=of_decide_eq_true hb0
  clear hb0
  obtain ⟨fs1,a2,fs3,fa4,fb5,fa6,fb7,b8,a9,b10,b11,fs12,es13,a14,ts15,es16,ts17,hrec⟩:=rk1_spec hr
  rw [hrec]
  refine Eq.trans (b:=bif small fs.length then bif decide (iZ (fB s fs (0 : Nat)) < (0 : Int)) then bif roomB (out.length + [AV.str s].length) (Tryz.prog.bytesOf 9) then k (AV.bool true) [some (Row.box false [AV.tup [AV.int .i64 1],AV.slv (Sh.agg [Sh.str,Sh.str.slice,Sh.bool]) fs1,AV.str a2,AV.ptr 1125899906842625 (0 : Nat),AV.undef,AV.slz Sh.str,AV.ptr 1125899906842626 (0 : Nat),AV.ptr 1125899906842627 (0 : Nat),AV.ptr 1125899906842628 (0 : Nat),AV.undef,AV.undef,AV.slv (Sh.agg [Sh.str,Sh.str.slice,Sh.bool]) fs3,AV.agg [AV.int .i64 fa4,AV.int .i64 fb5],AV.agg [AV.int .i64 fa6,AV.int .i64 fb7],AV.bool b8,AV.undef,AV.str a9,AV.bool b10,AV.bool b11,AV.undef,AV.slv (Sh.agg [Sh.str,Sh.str.slice,Sh.bool]) fs12,AV.slv (Sh.agg [Sh.str,Sh.str.slice]) es13,AV.str a14,AV.slv Sh.str ts15,AV.fn (92 : Nat) [AV.ref [AV.slv (Sh.agg [Sh.str,Sh.str.slice]) es16],AV.ref [AV.slv Sh.str ts17]],AV.undef,AV.undef,AV.undef,AV.undef,AV.undef,AV.undef,AV.undef,AV.undef,AV.undef,AV.undef,AV.undef,AV.undef,AV.undef,AV.undef,AV.undef,AV.undef,AV.undef,AV.undef,AV.undef]),some (Row.box false [AV.slv (Sh.agg [Sh.str,Sh.str.slice,Sh.bool]) fs]),some (Row.box false [AV.int .i64 u1,AV.int .i64 u2]),some (Row.box false [AV.int .i64 u3,AV.int .i64 u4]),some (Row.box false [AV.own 2251799813685248]),none] [Row.arr false Sh.str 9 (out ++ [AV.str s]) none] else none else bif inb (iZ (fB s fs (0 : Nat))) fs.length then bif (pB (fs.getD (iZ (fB s fs (0 : Nat))).toNat AV.unk)) then bif roomB (out.length + [AV.str s].length) (Tryz.prog.bytesOf 9) then k (AV.bool true) [some (Row.box false [AV.tup [AV.int .i64 1],AV.slv (Sh.agg [Sh.str,Sh.str.slice,Sh.bool]) fs1,AV.str a2,AV.ptr 1125899906842625 (0 : Nat),AV.undef,AV.slz Sh.str,AV.ptr 1125899906842626 (0 : Nat),AV.ptr 1125899906842627 (0 : Nat),AV.ptr 1125899906842628 (0 : Nat),AV.undef,AV.undef,AV.slv (Sh.agg [Sh.str,Sh.str.slice,Sh.bool]) fs3,AV.agg [AV.int .i64 fa4,AV.int .i64 fb5],AV.agg [AV.int .i64 fa6,AV.int .i64 fb7],AV.bool b8,AV.undef,AV.str a9,AV.bool b10,AV.bool b11,AV.undef,AV.slv (Sh.agg [Sh.str,Sh.str.slice,Sh.bool]) fs12,AV.slv (Sh.agg [Sh.str,Sh.str.slice]) es13,AV.str a14,AV.slv Sh.str ts15,AV.fn (92 : Nat) [AV.ref [AV.slv (Sh.agg [Sh.str,Sh.str.slice]) es16],AV.ref [AV.slv Sh.str ts17]],AV.undef,AV.undef,AV.undef,AV.undef,AV.undef,AV.undef,AV.undef,AV.undef,AV.undef,AV.undef,AV.undef,AV.undef,AV.undef,AV.undef,AV.undef,AV.undef,AV.undef,AV.undef,AV.undef]),some (Row.box false [AV.slv (Sh.agg [Sh.str,Sh.str.slice,Sh.bool]) fs]),some (Row.box false [AV.int .i64 u1,AV.int .i64 u2]),some (Row.box false [AV.int .i64 u3,AV.int .i64 u4]),some (Row.box false [AV.own 2251799813685248]),none] [Row.arr false Sh.str 9 (out ++ [AV.str s]) none] else none else k (AV.bool true) [some (Row.box false [AV.tup [AV.int .i64 1],AV.slv (Sh.agg [Sh.str,Sh.str.slice,Sh.bool]) fs1,AV.str a2,AV.ptr 1125899906842625 (0 : Nat),AV.undef,AV.slz Sh.str,AV.ptr 1125899906842626 (0 : Nat),AV.ptr 1125899906842627 (0 : Nat),AV.ptr 1125899906842628 (0 : Nat),AV.undef,AV.undef,AV.slv (Sh.agg [Sh.str,Sh.str.slice,Sh.bool]) fs3,AV.agg [AV.int .i64 fa4,AV.int .i64 fb5],AV.agg [AV.int .i64 fa6,AV.int .i64 fb7],AV.bool b8,AV.undef,AV.str a9,AV.bool b10,AV.bool b11,AV.undef,AV.slv (Sh.agg [Sh.str,Sh.str.slice,Sh.bool]) fs12,AV.slv (Sh.agg [Sh.str,Sh.str.slice]) es13,AV.str a14,AV.slv Sh.str ts15,AV.fn (92 : Nat) [AV.ref [AV.slv (Sh.agg [Sh.str,Sh.str.slice]) es16],AV.ref [AV.slv Sh.str ts17]],AV.undef,AV.undef,AV.undef,AV.undef,AV.undef,AV.undef,AV.undef,AV.undef,AV.undef,AV.undef,AV.undef,AV.undef,AV.undef,AV.undef,AV.undef,AV.undef,AV.undef,AV.undef,AV.undef]),some (Row.box false [AV.slv (Sh.agg [Sh.str,Sh.str.slice,Sh.bool]) fs]),some (Row.box false [AV.int .i64 u1,AV.int .i64 u2]),some (Row.box false [AV.int .i64 u3,AV.int .i64 u4]),some (Row.box false [AV.own 1125899906842629]),some (Row.arr false Sh.str 9 out none)] [] else none else none) (by kernel_rfl) ?_
  rw [← hk,hm]
  have r9 : roomB (out.length + [AV.str s].length) (Tryz.prog.bytesOf 9) = true:=room9 (by rw [List.length_singleton];omega)
  rw [r9]
  by_cases hneg : iZ (fB s fs 0) < 0
  ·have e1 : kp1 fs s = true:=by unfold kp1;rw [decide_eq_true hneg];rfl
   rw [e1,decide_eq_true hneg]
   refine Eq.symm (Eq.symm ?_)
   rw [← hrec]
   rfl
  ·obtain ⟨n,hn,hlt⟩:=iZ_in hneg
   have e1 : kp1 fs s = pB (fs.getD n .unk):=by unfold kp1;rw [decide_eq_false hneg,hn];rfl
   have e2 : inb (iZ (fB s fs 0)) fs.length = true:=inb_true (by omega) (by omega)
   rw [e1,decide_eq_false hneg,e2,hn,← hrec]
   simp only [cond_true,cond_false,Int.toNat_natCast]
   cases pB (fs.getD n .unk) <;> rfl
 ·cases h'
end Go.Proofs.YtijdnecnjenleaaGreatDoor


namespace Go.Proofs.YtijdnecnjenleaaGreatDoor
open Go.Ev
noncomputable def G92b : Env:={ pure:=[],opens:=[(54,ofX F54),(93,ofX F93)],ext:=[449],tmpX:=true,yld:=some (1,1,ofX FY1) }
theorem g92b : GOK Tryz.prog G92b:=GOK.flags (GOK.yields (GOK.alsoX (GOK.alsoX gE ok93) ok54) (by kernel_rfl) yok1)
noncomputable def L92b : List AV → List (Option Row) → Tr LOut
 | [.own 1125899906842624,.own 4294967297,.ptr 65 0,.ptr 128 0,.fn 93 [.ptr 65 0,.ptr 128 0]],[some (.box false rec),some (.box false [.slv (.agg [.str,.slice .str,.bool]) fs]),some (.box false [.int .i64 u1,.int .i64 u2]),some (.box false [.int .i64 u3,.int .i64 u4]),some (.box false [.own 901]),some (.box false [.mpv tab]),some (.box false [.mpv ms]),some (.box false [.own 64]),some (.box false [.own 900]),some (.arr false .str 9 q none),some (.arr false .str 9 out none)] =>
  .gd (all2 rk1 rec && (small fs.length && (tab.all nnB && (decide (out.length + mu ms q ≤ 100000) && invB tab ms q)))) (.leaf (.exit 0,[.own 1125899906842624,.own 4294967297,.ptr 65 0,.ptr 128 0,.fn 93 [.ptr 65 0,.ptr 128 0]],[some (.box false rec),some (.box false [.slv (.agg [.str,.slice .str,.bool]) fs]),some (.box false [.int .i64 u1,.int .i64 u2]),some (.box false [.int .i64 u3,.int .i64 u4]),some (.box false [.own 901]),some (.box false [.mpv tab]),some (.box false [.mpv (run tab (kp1 fs) ms q out).1]),some (.box false [.own 64]),some (.box false [.own 900]),some (.arr false .str 9 [] none),some (.arr false .str 9 (run tab (kp1 fs) ms q out).2 none)]))
 | _,_=>.no
noncomputable def l92b : Ev.Loop:=⟨{ len:=33,slots:=[0,4,5,6,7],rows:=[1125899906842624,1125899906842625,1125899906842626,1125899906842627,1125899906842628,4294967297,64,65,128,900,901],cells:=[(128,0,900,9),(1125899906842628,0,901,9)] },ofL L92b⟩
def μ92b (_ : List AV) (rs : List (Option Row)) : Nat:=match rs with
 | [_,_,_,_,_,_,some (.box _ [.mpv ms]),_,_,some (.arr _ _ _ q _),_]=>mu ms q
 | _=>0
theorem loop92b : LoopOK Tryz.prog G92b [(5,l92b)] b92 l92b:=by
 refine loopT g92b.natOK rfl (KOK.nil (by kernel_rfl)) μ92b (fun ρ vs rs k r h=>?_)
 unfold L92b at h
 split at h
 ·rename_i rec fs u1 u2 u3 u4 tab ms q out
  obtain ⟨hc,hk⟩:=gd_some h
  simp only [Bool.and_eq_true] at hc
  obtain ⟨hr,hm0,htab,hb,hI⟩:=hc
  have hb':=of_decide_eq_true hb
  obtain ⟨fs1,a2,fs3,fa4,fb5,fa6,fb7,b8,a9,b10,b11,fs12,es13,a14,ts15,es16,ts17,hrec⟩:=rk1_spec hr
  rw [hrec]
  refine Eq.trans (b:=bif decide ((↑q.length : Int) > (0 : Int)) then bif inb (0 : Int) q.length then bif decide (Int.toNat (0 : Int) < q.length) then bif decide ((0 : Int) ≤ (1 : Int)) && decide ((1 : Int) ≤ (↑q.length : Int)) then bif (fun x=>PID + x) (0 : Nat) == PID && (all2 rk1 [AV.tup [AV.int .i64 1],AV.slv (Sh.agg [Sh.str,Sh.str.slice,Sh.bool]) fs1,AV.str a2,AV.ptr 1125899906842625 (0 : Nat),AV.undef,AV.slz Sh.str,AV.ptr 1125899906842626 (0 : Nat),AV.ptr 1125899906842627 (0 : Nat),AV.ptr 1125899906842628 (0 : Nat),AV.undef,AV.undef,AV.slv (Sh.agg [Sh.str,Sh.str.slice,Sh.bool]) fs3,AV.agg [AV.int .i64 fa4,AV.int .i64 fb5],AV.agg [AV.int .i64 fa6,AV.int .i64 fb7],AV.bool b8,AV.undef,AV.str a9,AV.bool b10,AV.bool b11,AV.undef,AV.slv (Sh.agg [Sh.str,Sh.str.slice,Sh.bool]) fs12,AV.slv (Sh.agg [Sh.str,Sh.str.slice]) es13,AV.str a14,AV.slv Sh.str ts15,AV.fn (92 : Nat) [AV.ref [AV.slv (Sh.agg [Sh.str,Sh.str.slice]) es16],AV.ref [AV.slv Sh.str ts17]],AV.undef,AV.undef,AV.undef,AV.undef,AV.undef,AV.undef,AV.undef,AV.undef,AV.undef,AV.undef,AV.undef,AV.undef,AV.undef,AV.undef,AV.undef,AV.undef,AV.undef,AV.undef,AV.undef] && (decide ((9 : Nat) = (9 : TypeId) ∧ out.length ≤ (1000000 : Nat)) && small fs.length)) then bif kp1 fs (pS (q.getD (0 : Nat) AV.unk)) then bif mpOK (shOf Tryz.prog depth (9 : Nat)) (shOf Tryz.prog depth (54 : Nat)) tab then bif mpHas (AV.str (pS (q.getD (0 : Nat) AV.unk))) tab then bif decide ((9 : Nat) = (9 : TypeId) ∧ (List.drop (Int.toNat (1 : Int)) q).length + ((mpGet (AV.str (pS (q.getD (0 : Nat) AV.unk))) tab).cells.headD AV.unk).toList.length ≤ (1000000 : Nat)) && ms.all trB then bif decide (mu (List.foldl fndE (ms,List.drop (Int.toNat (1 : Int)) q) ((mpGet (AV.str (pS (q.getD (0 : Nat) AV.unk))) tab).cells.headD AV.unk).toList).fst (List.foldl fndE (ms,List.drop (Int.toNat (1 : Int)) q) ((mpGet (AV.str (pS (q.getD (0 : Nat) AV.unk))) tab).cells.headD AV.unk).toList).snd < mu ms q) then bif all2 rk1 [AV.tup [AV.int .i64 1],AV.slv (Sh.agg [Sh.str,Sh.str.slice,Sh.bool]) fs1,AV.str a2,AV.ptr 1125899906842625 (0 : Nat),AV.undef,AV.slz Sh.str,AV.ptr 1125899906842626 (0 : Nat),AV.ptr 1125899906842627 (0 : Nat),AV.ptr 1125899906842628 (0 : Nat),AV.undef,AV.undef,AV.slv (Sh.agg [Sh.str,Sh.str.slice,Sh.bool]) fs3,AV.agg [AV.int .i64 fa4,AV.int .i64 fb5],AV.agg [AV.int .i64 fa6,AV.int .i64 fb7],AV.bool b8,AV.undef,AV.str a9,AV.bool b10,AV.bool b11,AV.undef,AV.slv (Sh.agg [Sh.str,Sh.str.slice,Sh.bool]) fs12,AV.slv (Sh.agg [Sh.str,Sh.str.slice]) es13,AV.str a14,AV.slv Sh.str ts15,AV.fn (92 : Nat) [AV.ref [AV.slv (Sh.agg [Sh.str,Sh.str.slice]) es16],AV.ref [AV.slv Sh.str ts17]],AV.undef,AV.undef,AV.undef,AV.undef,AV.undef,AV.undef,AV.undef,AV.undef,AV.undef,AV.undef,AV.undef,AV.undef,AV.undef,AV.undef,AV.undef,AV.undef,AV.undef,AV.undef,AV.undef] && (small fs.length && (tab.all nnB && (decide ((out ++ [AV.str (pS (q.getD (0 : Nat) AV.unk))]).length + mu (List.foldl fndE (ms,List.drop (Int.toNat (1 : Int)) q) ((mpGet (AV.str (pS (q.getD (0 : Nat) AV.unk))) tab).cells.headD AV.unk).toList).fst (List.foldl fndE (ms,List.drop (Int.toNat (1 : Int)) q) ((mpGet (AV.str (pS (q.getD (0 : Nat) AV.unk))) tab).cells.headD AV.unk).toList).snd ≤ (100000 : Nat)) && invB tab (List.foldl fndE (ms,List.drop (Int.toNat (1 : Int)) q) ((mpGet (AV.str (pS (q.getD (0 : Nat) AV.unk))) tab).cells.headD AV.unk).toList).fst (List.foldl fndE (ms,List.drop (Int.toNat (1 : Int)) q) ((mpGet (AV.str (pS (q.getD (0 : Nat) AV.unk))) tab).cells.headD AV.unk).toList).snd))) then k (Ex.exit (0 : Nat)) [AV.own 1125899906842624,AV.own 4294967297,AV.ptr 65 (0 : Nat),AV.ptr 128 (0 : Nat),AV.fn (93 : Nat) [AV.ptr 65 (0 : Nat),AV.ptr 128 (0 : Nat)]] [some (Row.box false [AV.tup [AV.int .i64 1],AV.slv (Sh.agg [Sh.str,Sh.str.slice,Sh.bool]) fs1,AV.str a2,AV.ptr 1125899906842625 (0 : Nat),AV.undef,AV.slz Sh.str,AV.ptr 1125899906842626 (0 : Nat),AV.ptr 1125899906842627 (0 : Nat),AV.ptr 1125899906842628 (0 : Nat),AV.undef,AV.undef,AV.slv (Sh.agg [Sh.str,Sh.str.slice,Sh.bool]) fs3,AV.agg [AV.int .i64 fa4,AV.int .i64 fb5],AV.agg [AV.int .i64 fa6,AV.int .i64 fb7],AV.bool b8,AV.undef,AV.str a9,AV.bool b10,AV.bool b11,AV.undef,AV.slv (Sh.agg [Sh.str,Sh.str.slice,Sh.bool]) fs12,AV.slv (Sh.agg [Sh.str,Sh.str.slice]) es13,AV.str a14,AV.slv Sh.str ts15,AV.fn (92 : Nat) [AV.ref [AV.slv (Sh.agg [Sh.str,Sh.str.slice]) es16],AV.ref [AV.slv Sh.str ts17]],AV.undef,AV.undef,AV.undef,AV.undef,AV.undef,AV.undef,AV.undef,AV.undef,AV.undef,AV.undef,AV.undef,AV.undef,AV.undef,AV.undef,AV.undef,AV.undef,AV.undef,AV.undef,AV.undef]),some (Row.box false [AV.slv (Sh.agg [Sh.str,Sh.str.slice,Sh.bool]) fs]),some (Row.box false [AV.int .i64 u1,AV.int .i64 u2]),some (Row.box false [AV.int .i64 u3,AV.int .i64 u4]),some (Row.box false [AV.own 901]),some (Row.box false [AV.mpv tab]),some (Row.box false [AV.mpv (run tab (kp1 fs) (List.foldl fndE (ms,List.drop (Int.toNat (1 : Int)) q) ((mpGet (AV.str (pS (q.getD (0 : Nat) AV.unk))) tab).cells.headD AV.unk).toList).fst (List.foldl fndE (ms,List.drop (Int.toNat (1 : Int)) q) ((mpGet (AV.str (pS (q.getD (0 : Nat) AV.unk))) tab).cells.headD AV.unk).toList).snd (out ++ [AV.str (pS (q.getD (0 : Nat) AV.unk))])).fst]),some (Row.box false [AV.own 64]),some (Row.box false [AV.own 900]),some (Row.arr false Sh.str 9 [] none),some (Row.arr false Sh.str 9 (run tab (kp1 fs) (List.foldl fndE (ms,List.drop (Int.toNat (1 : Int)) q) ((mpGet (AV.str (pS (q.getD (0 : Nat) AV.unk))) tab).cells.headD AV.unk).toList).fst (List.foldl fndE (ms,List.drop (Int.toNat (1 : Int)) q) ((mpGet (AV.str (pS (q.getD (0 : Nat) AV.unk))) tab).cells.headD AV.unk).toList).snd (out ++ [AV.str (pS (q.getD (0 : Nat) AV.unk))])).snd none)] else none else none else none else bif decide (mu ms (List.drop (Int.toNat (1 : Int)) q) < mu ms q) then bif all2 rk1 [AV.tup [AV.int .i64 1],AV.slv (Sh.agg [Sh.str,Sh.str.slice,Sh.bool]) fs1,AV.str a2,AV.ptr 1125899906842625 (0 : Nat),AV.undef,AV.slz Sh.str,AV.ptr 1125899906842626 (0 : Nat),AV.ptr 1125899906842627 (0 : Nat),AV.ptr 1125899906842628 (0 : Nat),AV.undef,AV.undef,AV.slv (Sh.agg [Sh.str,Sh.str.slice,Sh.bool]) fs3,AV.agg [AV.int .i64 fa4,AV.int .i64 fb5],AV.agg [AV.int .i64 fa6,AV.int .i64 fb7],AV.bool b8,AV.undef,AV.str a9,AV.bool b10,AV.bool b11,AV.undef,AV.slv (Sh.agg [Sh.str,Sh.str.slice,Sh.bool]) fs12,AV.slv (Sh.agg [Sh.str,Sh.str.slice]) es13,AV.str a14,AV.slv Sh.str ts15,AV.fn (92 : Nat) [AV.ref [AV.slv (Sh.agg [Sh.str,Sh.str.slice]) es16],AV.ref [AV.slv Sh.str ts17]],AV.undef,AV.undef,AV.undef,AV.undef,AV.undef,AV.undef,AV.undef,AV.undef,AV.undef,AV.undef,AV.undef,AV.undef,AV.undef,AV.undef,AV.undef,AV.undef,AV.undef,AV.undef,AV.undef] && (small fs.length && (tab.all nnB && (decide ((out ++ [AV.str (pS (q.getD (0 : Nat) AV.unk))]).length + mu ms (List.drop (Int.toNat (1 : Int)) q) ≤ (100000 : Nat)) && invB tab ms (List.drop (Int.toNat (1 : Int)) q)))) then k (Ex.exit (0 : Nat)) [AV.own 1125899906842624,AV.own 4294967297,AV.ptr 65 (0 : Nat),AV.ptr 128 (0 : Nat),AV.fn (93 : Nat) [AV.ptr 65 (0 : Nat),AV.ptr 128 (0 : Nat)]] [some (Row.box false [AV.tup [AV.int .i64 1],AV.slv (Sh.agg [Sh.str,Sh.str.slice,Sh.bool]) fs1,AV.str a2,AV.ptr 1125899906842625 (0 : Nat),AV.undef,AV.slz Sh.str,AV.ptr 1125899906842626 (0 : Nat),AV.ptr 1125899906842627 (0 : Nat),AV.ptr 1125899906842628 (0 : Nat),AV.undef,AV.undef,AV.slv (Sh.agg [Sh.str,Sh.str.slice,Sh.bool]) fs3,AV.agg [AV.int .i64 fa4,AV.int .i64 fb5],AV.agg [AV.int .i64 fa6,AV.int .i64 fb7],AV.bool b8,AV.undef,AV.str a9,AV.bool b10,AV.bool b11,AV.undef,AV.slv (Sh.agg [Sh.str,Sh.str.slice,Sh.bool]) fs12,AV.slv (Sh.agg [Sh.str,Sh.str.slice]) es13,AV.str a14,AV.slv Sh.str ts15,AV.fn (92 : Nat) [AV.ref [AV.slv (Sh.agg [Sh.str,Sh.str.slice]) es16],AV.ref [AV.slv Sh.str ts17]],AV.undef,AV.undef,AV.undef,AV.undef,AV.undef,AV.undef,AV.undef,AV.undef,AV.undef,AV.undef,AV.undef,AV.undef,AV.undef,AV.undef,AV.undef,AV.undef,AV.undef,AV.undef,AV.undef]),some (Row.box false [AV.slv (Sh.agg [Sh.str,Sh.str.slice,Sh.bool]) fs]),some (Row.box false [AV.int .i64 u1,AV.int .i64 u2]),some (Row.box false [AV.int .i64 u3,AV.int .i64 u4]),some (Row.box false [AV.own 901]),some (Row.box false [AV.mpv tab]),some (Row.box false [AV.mpv (run tab (kp1 fs) ms (List.drop (Int.toNat (1 : Int)) q) (out ++ [AV.str (pS (q.getD (0 : Nat) AV.unk))])).fst]),some (Row.box false [AV.own 64]),some (Row.box false [AV.own 900]),some (Row.arr false Sh.str 9 [] none),some (Row.arr false Sh.str 9 (run tab (kp1 fs) ms (List.drop (Int.toNat (1 : Int)) q) (out ++ [AV.str (pS (q.getD (0 : Nat) AV.unk))])).snd none)] else none else none else none else bif mpOK (shOf Tryz.prog depth (9 : Nat)) (shOf Tryz.prog depth (54 : Nat)) tab then bif mpHas (AV.str (pS (q.getD (0 : Nat) AV.unk))) tab then bif decide ((9 : Nat) = (9 : TypeId) ∧ (List.drop (Int.toNat (1 : Int)) q).length + ((mpGet (AV.str (pS (q.getD (0 : Nat) AV.unk))) tab).cells.headD AV.unk).toList.length ≤ (1000000 : Nat)) && ms.all trB then bif decide (mu (List.foldl fndE (ms,List.drop (Int.toNat (1 : Int)) q) ((mpGet (AV.str (pS (q.getD (0 : Nat) AV.unk))) tab).cells.headD AV.unk).toList).fst (List.foldl fndE (ms,List.drop (Int.toNat (1 : Int)) q) ((mpGet (AV.str (pS (q.getD (0 : Nat) AV.unk))) tab).cells.headD AV.unk).toList).snd < mu ms q) then bif all2 rk1 [AV.tup [AV.int .i64 1],AV.slv (Sh.agg [Sh.str,Sh.str.slice,Sh.bool]) fs1,AV.str a2,AV.ptr 1125899906842625 (0 : Nat),AV.undef,AV.slz Sh.str,AV.ptr 1125899906842626 (0 : Nat),AV.ptr 1125899906842627 (0 : Nat),AV.ptr 1125899906842628 (0 : Nat),AV.undef,AV.undef,AV.slv (Sh.agg [Sh.str,Sh.str.slice,Sh.bool]) fs3,AV.agg [AV.int .i64 fa4,AV.int .i64 fb5],AV.agg [AV.int .i64 fa6,AV.int .i64 fb7],AV.bool b8,AV.undef,AV.str a9,AV.bool b10,AV.bool b11,AV.undef,AV.slv (Sh.agg [Sh.str,Sh.str.slice,Sh.bool]) fs12,AV.slv (Sh.agg [Sh.str,Sh.str.slice]) es13,AV.str a14,AV.slv Sh.str ts15,AV.fn (92 : Nat) [AV.ref [AV.slv (Sh.agg [Sh.str,Sh.str.slice]) es16],AV.ref [AV.slv Sh.str ts17]],AV.undef,AV.undef,AV.undef,AV.undef,AV.undef,AV.undef,AV.undef,AV.undef,AV.undef,AV.undef,AV.undef,AV.undef,AV.undef,AV.undef,AV.undef,AV.undef,AV.undef,AV.undef,AV.undef] && (small fs.length && (tab.all nnB && (decide (out.length + mu (List.foldl fndE (ms,List.drop (Int.toNat (1 : Int)) q) ((mpGet (AV.str (pS (q.getD (0 : Nat) AV.unk))) tab).cells.headD AV.unk).toList).fst (List.foldl fndE (ms,List.drop (Int.toNat (1 : Int)) q) ((mpGet (AV.str (pS (q.getD (0 : Nat) AV.unk))) tab).cells.headD AV.unk).toList).snd ≤ (100000 : Nat)) && invB tab (List.foldl fndE (ms,List.drop (Int.toNat (1 : Int)) q) ((mpGet (AV.str (pS (q.getD (0 : Nat) AV.unk))) tab).cells.headD AV.unk).toList).fst (List.foldl fndE (ms,List.drop (Int.toNat (1 : Int)) q) ((mpGet (AV.str (pS (q.getD (0 : Nat) AV.unk))) tab).cells.headD AV.unk).toList).snd))) then k (Ex.exit (0 : Nat)) [AV.own 1125899906842624,AV.own 4294967297,AV.ptr 65 (0 : Nat),AV.ptr 128 (0 : Nat),AV.fn (93 : Nat) [AV.ptr 65 (0 : Nat),AV.ptr 128 (0 : Nat)]] [some (Row.box false [AV.tup [AV.int .i64 1],AV.slv (Sh.agg [Sh.str,Sh.str.slice,Sh.bool]) fs1,AV.str a2,AV.ptr 1125899906842625 (0 : Nat),AV.undef,AV.slz Sh.str,AV.ptr 1125899906842626 (0 : Nat),AV.ptr 1125899906842627 (0 : Nat),AV.ptr 1125899906842628 (0 : Nat),AV.undef,AV.undef,AV.slv (Sh.agg [Sh.str,Sh.str.slice,Sh.bool]) fs3,AV.agg [AV.int .i64 fa4,AV.int .i64 fb5],AV.agg [AV.int .i64 fa6,AV.int .i64 fb7],AV.bool b8,AV.undef,AV.str a9,AV.bool b10,AV.bool b11,AV.undef,AV.slv (Sh.agg [Sh.str,Sh.str.slice,Sh.bool]) fs12,AV.slv (Sh.agg [Sh.str,Sh.str.slice]) es13,AV.str a14,AV.slv Sh.str ts15,AV.fn (92 : Nat) [AV.ref [AV.slv (Sh.agg [Sh.str,Sh.str.slice]) es16],AV.ref [AV.slv Sh.str ts17]],AV.undef,AV.undef,AV.undef,AV.undef,AV.undef,AV.undef,AV.undef,AV.undef,AV.undef,AV.undef,AV.undef,AV.undef,AV.undef,AV.undef,AV.undef,AV.undef,AV.undef,AV.undef,AV.undef]),some (Row.box false [AV.slv (Sh.agg [Sh.str,Sh.str.slice,Sh.bool]) fs]),some (Row.box false [AV.int .i64 u1,AV.int .i64 u2]),some (Row.box false [AV.int .i64 u3,AV.int .i64 u4]),some (Row.box false [AV.own 901]),some (Row.box false [AV.mpv tab]),some (Row.box false [AV.mpv (run tab (kp1 fs) (List.foldl fndE (ms,List.drop (Int.toNat (1 : Int)) q) ((mpGet (AV.str (pS (q.getD (0 : Nat) AV.unk))) tab).cells.headD AV.unk).toList).fst (List.foldl fndE (ms,List.drop (Int.toNat (1 : Int)) q) ((mpGet (AV.str (pS (q.getD (0 : Nat) AV.unk))) tab).cells.headD AV.unk).toList).snd out).fst]),some (Row.box false [AV.own 64]),some (Row.box false [AV.own 900]),some (Row.arr false Sh.str 9 [] none),some (Row.arr false Sh.str 9 (run tab (kp1 fs) (List.foldl fndE (ms,List.drop (Int.toNat (1 : Int)) q) ((mpGet (AV.str (pS (q.getD (0 : Nat) AV.unk))) tab).cells.headD AV.unk).toList).fst (List.foldl fndE (ms,List.drop (Int.toNat (1 : Int)) q) ((mpGet (AV.str (pS (q.getD (0 : Nat) AV.unk))) tab).cells.headD AV.unk).toList).snd out).snd none)] else none else none else none else bif decide (mu ms (List.drop (Int.toNat (1 : Int)) q) < mu ms q) then bif all2 rk1 [AV.tup [AV.int .i64 1],AV.slv (Sh.agg [Sh.str,Sh.str.slice,Sh.bool]) fs1,AV.str a2,AV.ptr 1125899906842625 (0 : Nat),AV.undef,AV.slz Sh.str,AV.ptr 1125899906842626 (0 : Nat),AV.ptr 1125899906842627 (0 : Nat),AV.ptr 1125899906842628 (0 : Nat),AV.undef,AV.undef,AV.slv (Sh.agg [Sh.str,Sh.str.slice,Sh.bool]) fs3,AV.agg [AV.int .i64 fa4,AV.int .i64 fb5],AV.agg [AV.int .i64 fa6,AV.int .i64 fb7],AV.bool b8,AV.undef,AV.str a9,AV.bool b10,AV.bool b11,AV.undef,AV.slv (Sh.agg [Sh.str,Sh.str.slice,Sh.bool]) fs12,AV.slv (Sh.agg [Sh.str,Sh.str.slice]) es13,AV.str a14,AV.slv Sh.str ts15,AV.fn (92 : Nat) [AV.ref [AV.slv (Sh.agg [Sh.str,Sh.str.slice]) es16],AV.ref [AV.slv Sh.str ts17]],AV.undef,AV.undef,AV.undef,AV.undef,AV.undef,AV.undef,AV.undef,AV.undef,AV.undef,AV.undef,AV.undef,AV.undef,AV.undef,AV.undef,AV.undef,AV.undef,AV.undef,AV.undef,AV.undef] && (small fs.length && (tab.all nnB && (decide (out.length + mu ms (List.drop (Int.toNat (1 : Int)) q) ≤ (100000 : Nat)) && invB tab ms (List.drop (Int.toNat (1 : Int)) q)))) then k (Ex.exit (0 : Nat)) [AV.own 1125899906842624,AV.own 4294967297,AV.ptr 65 (0 : Nat),AV.ptr 128 (0 : Nat),AV.fn (93 : Nat) [AV.ptr 65 (0 : Nat),AV.ptr 128 (0 : Nat)]] [some (Row.box false [AV.tup [AV.int .i64 1],AV.slv (Sh.agg [Sh.str,Sh.str.slice,Sh.bool]) fs1,AV.str a2,AV.ptr 1125899906842625 (0 : Nat),AV.undef,AV.slz Sh.str,AV.ptr 1125899906842626 (0 : Nat),AV.ptr 1125899906842627 (0 : Nat),AV.ptr 1125899906842628 (0 : Nat),AV.undef,AV.undef,AV.slv (Sh.agg [Sh.str,Sh.str.slice,Sh.bool]) fs3,AV.agg [AV.int .i64 fa4,AV.int .i64 fb5],AV.agg [AV.int .i64 fa6,AV.int .i64 fb7],AV.bool b8,AV.undef,AV.str a9,AV.bool b10,AV.bool b11,AV.undef,AV.slv (Sh.agg [Sh.str,Sh.str.slice,Sh.bool]) fs12,AV.slv (Sh.agg [Sh.str,Sh.str.slice]) es13,AV.str a14,AV.slv Sh.str ts15,AV.fn (92 : Nat) [AV.ref [AV.slv (Sh.agg [Sh.str,Sh.str.slice]) es16],AV.ref [AV.slv Sh.str ts17]],AV.undef,AV.undef,AV.undef,AV.undef,AV.undef,AV.undef,AV.undef,AV.undef,AV.undef,AV.undef,AV.undef,AV.undef,AV.undef,AV.undef,AV.undef,AV.undef,AV.undef,AV.undef,AV.undef]),some (Row.box false [AV.slv (Sh.agg [Sh.str,Sh.str.slice,Sh.bool]) fs]),some (Row.box false [AV.int .i64 u1,AV.int .i64 u2]),some (Row.box false [AV.int .i64 u3,AV.int .i64 u4]),some (Row.box false [AV.own 901]),some (Row.box false [AV.mpv tab]),some (Row.box false [AV.mpv (run tab (kp1 fs) ms (List.drop (Int.toNat (1 : Int)) q) out).fst]),some (Row.box false [AV.own 64]),some (Row.box false [AV.own 900]),some (Row.arr false Sh.str 9 [] none),some (Row.arr false Sh.str 9 (run tab (kp1 fs) ms (List.drop (Int.toNat (1 : Int)) q) out).snd none)] else none else none else none else none else none else none else none else k (Ex.exit (0 : Nat)) [AV.own 1125899906842624,AV.own 4294967297,AV.ptr 65 (0 : Nat),AV.ptr 128 (0 : Nat),AV.fn (93 : Nat) [AV.ptr 65 (0 : Nat),AV.ptr 128 (0 : Nat)]] [some (Row.box false [AV.tup [AV.int .i64 1],AV.slv (Sh.agg [Sh.str,Sh.str.slice,Sh.bool]) fs1,AV.str a2,AV.ptr 1125899906842625 (0 : Nat),AV.undef,AV.slz Sh.str,AV.ptr 1125899906842626 (0 : Nat),AV.ptr 1125899906842627 (0 : Nat),AV.ptr 1125899906842628 (0 : Nat),AV.undef,AV.undef,AV.slv (Sh.agg [Sh.str,Sh.str.slice,Sh.bool]) fs3,AV.agg [AV.int .i64 fa4,AV.int .i64 fb5],AV.agg [AV.int .i64 fa6,AV.int .i64 fb7],AV.bool b8,AV.undef,AV.str a9,AV.bool b10,AV.bool b11,AV.undef,AV.slv (Sh.agg [Sh.str,Sh.str.slice,Sh.bool]) fs12,AV.slv (Sh.agg [Sh.str,Sh.str.slice]) es13,AV.str a14,AV.slv Sh.str ts15,AV.fn (92 : Nat) [AV.ref [AV.slv (Sh.agg [Sh.str,Sh.str.slice]) es16],AV.ref [AV.slv Sh.str ts17]],AV.undef,AV.undef,AV.undef,AV.undef,AV.undef,AV.undef,AV.undef,AV.undef,AV.undef,AV.undef,AV.undef,AV.undef,AV.undef,AV.undef,AV.undef,AV.undef,AV.undef,AV.undef,AV.undef]),some (Row.box false [AV.slv (Sh.agg [Sh.str,Sh.str.slice,Sh.bool]) fs]),some (Row.box false [AV.int .i64 u1,AV.int .i64 u2]),some (Row.box false [AV.int .i64 u3,AV.int .i64 u4]),some (Row.box false [AV.own 901]),some (Row.box false [AV.mpv tab]),some (Row.box false [AV.mpv ms]),some (Row.box false [AV.own 64]),some (Row.box false [AV.own 900]),some (Row.arr false Sh.str 9 q none),some (Row.arr false Sh.str 9 out none)]) (by kernel_rfl) ?_
  rw [← hk,← hrec]
  obtain ⟨U,hU⟩:=invB_iff.1 hI
  cases q with
  | nil=>rw [run_nil];rfl
  | cons x q =>
   obtain ⟨h1,h2⟩:=hU.step
   have hl : q.length ≤ 100000:=by unfold mu at hb';rw [List.length_cons] at hb';omega
   have hf:=hU.few (pS x)
   have e1 : decide (((x :: q).length : Int) > 0) = true:=decide_eq_true (by rw [List.length_cons];omega)
   have e2 : inb 0 (x :: q).length = true:=inb_true (by omega) (by rw [List.length_cons];omega)
   have e3 : decide (Int.toNat 0 < (x :: q).length) = true:=decide_eq_true (by rw [List.length_cons];show 0 < _;omega)
   have e4 : (decide ((0 : Int) ≤ 1) && decide ((1 : Int) ≤ ((x :: q).length : Int))) = true:=and_t rfl (decide_eq_true (by rw [List.length_cons];omega))
   have e5 : decide (True ∧ out.length ≤ 1000000) = true:=decide_eq_true ⟨trivial,by omega⟩
   have e6 : mpOK .str (.slice .str) tab = true:=nn_ok htab
   have e7 : (((fun x=>PID + x) 0 : Nat) == PID) = true:=by kernel_rfl
   have e8 : (x :: q).getD 0 .unk = x:=rfl
   have e9 : (x :: q).drop (Int.toNat 1) = q:=rfl
   have e10:=invB_iff.2 ⟨U,h1⟩
   have e11:=hU.tr
   have e12 : decide (True ∧ q.length + (tgt tab (pS x)).length ≤ 1000000) = true:=decide_eq_true ⟨trivial,by omega⟩
   have e13 : decide (mu ((tgt tab (pS x)).foldl fndE (ms,q)).1 ((tgt tab (pS x)).foldl fndE (ms,q)).2 < mu ms (x :: q)) = true:=decide_eq_true (by omega)
   have e14 : decide (out.length + mu ((tgt tab (pS x)).foldl fndE (ms,q)).1 ((tgt tab (pS x)).foldl fndE (ms,q)).2 ≤ 100000) = true:=decide_eq_true (by omega)
   have e15 : decide ((out ++ [AV.str (pS x)]).length + mu ((tgt tab (pS x)).foldl fndE (ms,q)).1 ((tgt tab (pS x)).foldl fndE (ms,q)).2 ≤ 100000) = true:=decide_eq_true (by rw [List.length_append,List.length_singleton];omega)
   have f10:=invB_iff.2 ⟨U,hU.tail⟩
   have fm : mu ms q + 1 = mu ms (x :: q):=by unfold mu;rw [List.length_cons];omega
   have f13 : decide (mu ms q < mu ms (x :: q)) = true:=decide_eq_true (by omega)
   have f14 : decide (out.length + mu ms q ≤ 100000) = true:=decide_eq_true (by omega)
   have f15 : decide ((out ++ [AV.str (pS x)]).length + mu ms q ≤ 100000) = true:=decide_eq_true (by rw [List.length_append,List.length_singleton];omega)
   rw [run_cons (kp1 fs) out hU]
   simp only [e1,e2,e3,e4,e5,e6,e7,e8,e9,hr,hm0,htab,sh9,sh54,cond_true,Bool.and_self]
   cases ek : kp1 fs (pS x) with
   | false =>
    rw [cond_false,cond_false]
    cases hbb : mpHas (.str (pS x)) tab with
    | true =>
     rw [tgt_get htab hbb]
     simp only [e10,e11,e12,e13,e14,cond_true,Bool.and_self]
     rfl
    | false =>
     rw [tgt_none hbb]
     simp only [List.foldl_nil,f10,f13,f14,cond_true,cond_false,Bool.and_self]
     rfl
   | true =>
    rw [cond_true,cond_true]
    cases hbb : mpHas (.str (pS x)) tab with
    | true =>
     rw [tgt_get htab hbb]
     simp only [e10,e11,e12,e13,e15,cond_true,Bool.and_self]
     rfl
    | false =>
     rw [tgt_none hbb]
     simp only [List.foldl_nil,f10,f13,f15,cond_true,cond_false,Bool.and_self]
     rfl
 ·cases h
noncomputable def F92b : List AV → List Row → Tr XOut
 | [.own p,.ref [.slv (.agg [.str,.slice .str]) es],.ref [.slv .str [.str a]]],[.box false rec,.box false [.slv (.agg [.str,.slice .str,.bool]) fs],.box false [.int .i64 u1,.int .i64 u2],.box false [.int .i64 u3,.int .i64 u4],.box false [.slz .str]] =>
  .gd (p == PID && (all2 rk1 rec && (small fs.length && (small es.length && ((tabE es).all nnB && invB (tabE es) (ms1 a) (q1 a))))))
   (.leaf (.tup [],[some (.box false rec),some (.box false [.slv (.agg [.str,.slice .str,.bool]) fs]),some (.box false [.int .i64 u1,.int .i64 u2]),some (.box false [.int .i64 u3,.int .i64 u4]),some (.box false [.own RID])],[.arr false .str 9 (run (tabE es) (kp1 fs) (ms1 a) (q1 a) []).2 none]))
 | _,_=>.no
theorem ok92b : XOK Tryz.prog 92 (ofX F92b) ∧ XNat (ofX F92b):=by
 refine ⟨xsum1 (K:=[(5,l92b)]) (b:=b92) (l:=l92b) (H:=[]) g92b Tryz.func92 (by kernel_rfl) (by kernel_rfl) loop92b fun ρ avs rows k r h=>?_,xnat_ofX F92b⟩
 have h' : (F92b avs rows).run (fun q=>k q.1 q.2.1 q.2.2) = some r:=h
 unfold F92b at h'
 split at h'
 ·rename_i p es a rec fs u1 u2 u3 u4
  obtain ⟨hc,hk⟩:=gd_some h'
  simp only [Bool.and_eq_true] at hc
  obtain ⟨hp,hr,hm0,hes,htab,hI⟩:=hc
  obtain rfl : p = PID:=by simpa using hp
  refine ⟨by simp,fun rows' hsp=>?_⟩
  obtain rfl : rows' = [.box false rec,.box false [.slv (.agg [.str,.slice .str,.bool]) fs],.box false [.int .i64 u1,.int .i64 u2],.box false [.int .i64 u3,.int .i64 u4],.box false [.slz .str]]:=by
   match rows',hsp with
   | [r1,r2,r3,r4,r5],⟨h1,h2,h3,h4,h5,_⟩=>rw [h1,h2,h3,h4,h5]
  obtain ⟨fs1,a2,fs3,fa4,fb5,fa6,fb7,b8,a9,b10,b11,fs12,es13,a14,ts15,es16,ts17,hrec⟩:=rk1_spec hr
  rw [hrec]
  refine Eq.trans (b:=bif small es.length then bif all2 rk1 [AV.tup [AV.int .i64 1],AV.slv (Sh.agg [Sh.str,Sh.str.slice,Sh.bool]) fs1,AV.str a2,AV.ptr 1125899906842625 (0 : Nat),AV.undef,AV.slz Sh.str,AV.ptr 1125899906842626 (0 : Nat),AV.ptr 1125899906842627 (0 : Nat),AV.ptr 1125899906842628 (0 : Nat),AV.undef,AV.undef,AV.slv (Sh.agg [Sh.str,Sh.str.slice,Sh.bool]) fs3,AV.agg [AV.int .i64 fa4,AV.int .i64 fb5],AV.agg [AV.int .i64 fa6,AV.int .i64 fb7],AV.bool b8,AV.undef,AV.str a9,AV.bool b10,AV.bool b11,AV.undef,AV.slv (Sh.agg [Sh.str,Sh.str.slice,Sh.bool]) fs12,AV.slv (Sh.agg [Sh.str,Sh.str.slice]) es13,AV.str a14,AV.slv Sh.str ts15,AV.fn (92 : Nat) [AV.ref [AV.slv (Sh.agg [Sh.str,Sh.str.slice]) es16],AV.ref [AV.slv Sh.str ts17]],AV.undef,AV.undef,AV.undef,AV.undef,AV.undef,AV.undef,AV.undef,AV.undef,AV.undef,AV.undef,AV.undef,AV.undef,AV.undef,AV.undef,AV.undef,AV.undef,AV.undef,AV.undef,AV.undef] && (small fs.length && ((tabE es).all nnB && (decide (([] : List AV).length + mu [AV.tup [AV.str (pS (AV.str a)),AV.bool true]] [AV.str (pS (AV.str a))] ≤ (100000 : Nat)) && invB (tabE es) [AV.tup [AV.str (pS (AV.str a)),AV.bool true]] [AV.str (pS (AV.str a))]))) then k (AV.tup []) [some (Row.box false [AV.tup [AV.int .i64 1],AV.slv (Sh.agg [Sh.str,Sh.str.slice,Sh.bool]) fs1,AV.str a2,AV.ptr 1125899906842625 (0 : Nat),AV.undef,AV.slz Sh.str,AV.ptr 1125899906842626 (0 : Nat),AV.ptr 1125899906842627 (0 : Nat),AV.ptr 1125899906842628 (0 : Nat),AV.undef,AV.undef,AV.slv (Sh.agg [Sh.str,Sh.str.slice,Sh.bool]) fs3,AV.agg [AV.int .i64 fa4,AV.int .i64 fb5],AV.agg [AV.int .i64 fa6,AV.int .i64 fb7],AV.bool b8,AV.undef,AV.str a9,AV.bool b10,AV.bool b11,AV.undef,AV.slv (Sh.agg [Sh.str,Sh.str.slice,Sh.bool]) fs12,AV.slv (Sh.agg [Sh.str,Sh.str.slice]) es13,AV.str a14,AV.slv Sh.str ts15,AV.fn (92 : Nat) [AV.ref [AV.slv (Sh.agg [Sh.str,Sh.str.slice]) es16],AV.ref [AV.slv Sh.str ts17]],AV.undef,AV.undef,AV.undef,AV.undef,AV.undef,AV.undef,AV.undef,AV.undef,AV.undef,AV.undef,AV.undef,AV.undef,AV.undef,AV.undef,AV.undef,AV.undef,AV.undef,AV.undef,AV.undef]),some (Row.box false [AV.slv (Sh.agg [Sh.str,Sh.str.slice,Sh.bool]) fs]),some (Row.box false [AV.int .i64 u1,AV.int .i64 u2]),some (Row.box false [AV.int .i64 u3,AV.int .i64 u4]),some (Row.box false [AV.own 2251799813685248])] [Row.arr false Sh.str 9 (run (tabE es) (kp1 fs) [AV.tup [AV.str (pS (AV.str a)),AV.bool true]] [AV.str (pS (AV.str a))] []).snd none] else none else none) (by kernel_rfl) ?_
  rw [← hk,← hrec]
  have e2 : decide (([] : List AV).length + mu [.tup [.str a,.bool true]] [.str a] ≤ 100000) = true:=rfl
  have e3 : decide (([AV.str a] : List AV).length ≤ 1000000) = true:=rfl
  have ea : pS (AV.str a) = a:=rfl
  have hI' : invB (tabE es) [.tup [.str a,.bool true]] [.str a] = true:=hI
  simp only [ea,hes,htab,hm0,hr,hI',e2,cond_true,Bool.and_self]
  rfl
 ·cases h'
noncomputable def G16 : Env:={ pure:=[(15,ofT F15),(27,ofT F27),(29,ofT F29),(39,ofT F39),(53,ofT F53),(55,ofT F55),(56,ofT F56)],opens:=[(92,ofX F92b)],rng:=[(9,1,5000)] }
theorem g16 : GOK Tryz.prog G16:=GOK.flags (GOK.alsoX (GOK.also (GOK.also (GOK.also (GOK.also (GOK.also (GOK.also (GOK.also gE ok56) ok55) ok53) ok39) ok29) ok27) ok15) ok92b)
theorem rng16 : (Tryz.f16.body.map rngsOf) = some [loopCode 1]:=by kernel_rfl
def trR (fs : List AV) (a : List UInt8) : List AV:=(run (tabE (fs.map alE)) (kp1 fs) (ms1 a) (q1 a) []).2
def vcF (fs : List AV) : Int:=vdC (fs.map alE)
def F16 : List AV → Tr AV
 | [.slv (.agg [.str,.slice .str,.bool]) fs,.str a]=>.gd (small fs.length && (wtF fs.length && (fs.all aOK && smallS a.length))) (.br (vcF fs != 0) (.leaf (.tup [.slv .str [],.agg [.int .i64 (vcF fs),.int .i64 (vdP (fs.map alE))]])) (.br (!adB a) (.leaf (.tup [.slv .str [],.agg [.int .i64 10,.int .i64 (-2)]])) (.leaf (.tup [.slv .str (trR fs a),.agg [.int .i64 0,.int .i64 0]]))))
 | _=>.no
theorem ok16 : SumOK Tryz.prog 16 (ofT F16) ∧ SNat (ofT F16):=by
 refine ⟨sumOK_ofR g16 (drawOK g16 (by kernel_rfl)) Tryz.func16 (fun ρ avs k r h=>⟨[],fun c hc=>KOK.nil (by
   have h1 : Tryz.f16.body.map loopsOf = some []:=by kernel_rfl
   rw [hc] at h1
   simpa using h1),?_⟩) (rng_one rng16 rfl rfl),snat_ofT _⟩
 change (F16 avs).run k = some r at h
 unfold F16 at h
 split at h
 ·rename_i fs a
  obtain ⟨hc,hk⟩:=gd_some h
  simp only [Bool.and_eq_true] at hc
  obtain ⟨h1,h2,h3,h4⟩:=hc
  refine Eq.trans (b:=bif small fs.length && (wtF fs.length && fs.all aOK) then bif vdC (List.map alE fs) != 0 then k (AV.tup [AV.slv Sh.str [],AV.agg [AV.int .i64 (vdC (List.map alE fs)),AV.int .i64 (vdP (List.map alE fs))]]) else bif smallS a.length then bif !adB a then k (AV.tup [AV.slv Sh.str [],AV.agg [AV.int .i64 10,AV.int .i64 (-2 : Int)]]) else bif small fs.length && wtF fs.length then bif (fun x=>PID + x) (0 : Nat) == PID && (all2 rk1 [AV.tup [AV.int .i64 1],AV.slv (Sh.agg [Sh.str,Sh.str.slice,Sh.bool]) fs,AV.str a,AV.ptr 1125899906842625 (0 : Nat),AV.undef,AV.slz Sh.str,AV.ptr 1125899906842626 (0 : Nat),AV.ptr 1125899906842627 (0 : Nat),AV.ptr 1125899906842628 (0 : Nat),AV.undef,AV.undef,AV.slv (Sh.agg [Sh.str,Sh.str.slice,Sh.bool]) fs,AV.agg [AV.int .i64 (vdC (List.map alE fs)),AV.int .i64 (vdP (List.map alE fs))],AV.agg [AV.int .i64 (vdC (List.map alE fs)),AV.int .i64 (vdP (List.map alE fs))],AV.bool (vdC (List.map alE fs) != 0),AV.undef,AV.str a,AV.bool (adB a),AV.bool !adB a,AV.undef,AV.slv (Sh.agg [Sh.str,Sh.str.slice,Sh.bool]) fs,AV.slv (Sh.agg [Sh.str,Sh.str.slice]) (List.map alE fs),AV.str a,AV.slv Sh.str [AV.str a],AV.fn (92 : Nat) [AV.ref [AV.slv (Sh.agg [Sh.str,Sh.str.slice]) (List.map alE fs)],AV.ref [AV.slv Sh.str [AV.str a]]],AV.undef,AV.undef,AV.undef,AV.undef,AV.undef,AV.undef,AV.undef,AV.undef,AV.undef,AV.undef,AV.undef,AV.undef,AV.undef,AV.undef,AV.undef,AV.undef,AV.undef,AV.undef,AV.undef] && (small fs.length && (small (List.map alE fs).length && ((tabE (List.map alE fs)).all nnB && invB (tabE (List.map alE fs)) [AV.tup [AV.str a,AV.bool true]] [AV.str a])))) then k (AV.tup [AV.slv Sh.str (run (tabE (List.map alE fs)) (kp1 fs) [AV.tup [AV.str a,AV.bool true]] [AV.str a] []).snd,AV.agg [AV.int .i64 0,AV.int .i64 0]]) else none else none else none else none) (by kernel_rfl) ?_
  rw [← hk,h1,h2,h3,h4]
  have e0 : vdC (fs.map alE) = vcF fs:=rfl
  rw [e0]
  by_cases hv : vcF fs = 0
  ·obtain ⟨g1,g2⟩:=vd_good (es:=fs.map alE) hv
   have g3 : (fs.map alE).all goE = true:=List.all_eq_true.2 fun e he=>(g2 e he).2.1
   have g4:=(tab_spec g3).1
   have g5 : invB (tabE (fs.map alE)) [.tup [.str a,.bool true]] [.str a] = true:=invB_iff.2 ⟨_,inv_start a g1 g3⟩
   have g6 : (vcF fs != 0) = false:=by rw [hv];rfl
   have g7 : small (fs.map alE).length = true:=by rw [List.length_map];exact h1
   simp only [g4,g5,g6,g7,Bool.and_self,cond_true,cond_false]
   cases adB a with
   | false=>rfl
   | true=>refine Eq.symm (Eq.symm ?_);kernel_rfl
  ·have g6 : (vcF fs != 0) = true:=bne_iff_ne.2 hv
   rw [g6]
   rfl
 ·cases h
end Go.Proofs.YtijdnecnjenleaaGreatDoor

namespace Go.Proofs.YtijdnecnjenleaaGreatDoor
open Go.Ev
abbrev sR : Sh:=.agg [.str,.int .i64]
def pN (e : AV) : Int:=(e.cells.tail.headD .unk).toInt
def okR (e : AV) : Bool:=smallS (pS e).length && (adB (pS e) && pN e == 1)
def okO (e : AV) : Bool:=match e with
 | .agg [.str _,.int .i64 n]=>n == 1
 | _=>false
def mpOf : Nat → List AV → List AV
 | _,[]=>[]
 | k,e :: l=>.tup [.str (pS e),.int .i64 (k : Nat)] :: mpOf (k + 1) l
def rcE (e : AV) : AV:=.agg [.str (pS e),.int .i64 1]
def hasA (a : List UInt8) (l : List AV) : Bool:=l.any fun e=>pS e == a
def mrg (out : List AV) (e : AV) : List AV:=bif hasA (pS e) out then out else out ++ [rcE e]
noncomputable def eqB (a b : List AV) : Bool:=@decide (a = b) (Classical.propDecidable _)
theorem eqB_iff {a b : List AV} : eqB a b = true ↔ a = b:=@decide_eq_true_iff _ (Classical.propDecidable _)
noncomputable def G17 : Env:={ pure:=[(29,ofT F29),(39,ofT F39),(53,ofT F53),(58,ofT F58)] }
theorem g17 : GOK Tryz.prog G17:=GOK.also (GOK.also (GOK.also (GOK.also gE ok58) ok53) ok39) ok29
theorem mpOf_has (a : List UInt8) : ∀ (k : Nat) (l : List AV),mpHas (.str a) (mpOf k l) = hasA a l
 | _,[]=>rfl
 | k,e :: l=>by
  unfold mpOf mpHas
  rw [mpOf_has a (k + 1) l]
  show (a == pS e || hasA a l) = (pS e == a || hasA a l)
  rw [Bool.beq_comm]
theorem mpOf_get (a : List UInt8) : ∀ (k : Nat) (l : List AV),hasA a l = true → ∃ i,i < l.length ∧ mpGet (.str a) (mpOf k l) = .int .i64 ((k + i : Nat) : Int)
 | _,[],h=>by cases h
 | k,e :: l,h=>by
  unfold mpOf mpGet
  have e1 : keyB (.str a) (mpKey (.tup [.str (pS e),.int .i64 (k : Nat)])) = (a == pS e):=rfl
  rw [e1]
  cases hb : a == pS e with
  | true=>exact ⟨0,by rw [List.length_cons];omega,rfl⟩
  | false =>
   have h' : hasA a l = true:=by
    have : (pS e == a || hasA a l) = true:=h
    rw [Bool.beq_comm,hb] at this
    exact this
   obtain ⟨i,hi,hg⟩:=mpOf_get a (k + 1) l h'
   exact ⟨i + 1,by rw [List.length_cons];omega,by rw [cond_false,hg,show k + 1 + i = k + (i + 1) from by omega]⟩
theorem mpOf_app (x : AV) : ∀ (k : Nat) (l : List AV),mpOf k (l ++ [x]) = mpOf k l ++ [.tup [.str (pS x),.int .i64 ((k + l.length : Nat) : Int)]]
 | k,[]=>rfl
 | k,e :: l=>by
  rw [List.cons_append]
  unfold mpOf
  rw [mpOf_app x (k + 1) l,List.cons_append,List.length_cons,show k + 1 + l.length = k + (l.length + 1) from by omega]
theorem mpOf_ok : ∀ (k : Nat) (l : List AV),mpOK .str (.int .i64) (mpOf k l) = true
 | _,[]=>rfl
 | k,e :: l=>by
  unfold mpOf mpOK
  rw [List.all_cons]
  exact and_t rfl (mpOf_ok (k + 1) l)
theorem okO_at {l : List AV} (h : l.all okO = true) {i : Nat} (hi : i < l.length) : ∃ s,l.getD i .unk = .agg [.str s,.int .i64 1] ∧ l.set i (.agg [.str s,.int .i64 1]) = l:=by
 have h1:=all_at h hi
 unfold okO at h1
 split at h1
 ·rename_i s n e
  obtain rfl:=eq_of_beq h1
  refine ⟨s,e,?_⟩
  rw [← e,List.getD,List.getElem?_eq_getElem hi]
  exact List.set_getElem_self hi
 ·cases h1
theorem sh3 : shOf Tryz.prog depth 3 = .int .i64:=by kernel_rfl
theorem room65 {n : Nat} (h : n ≤ 1000001) : roomB n (Tryz.prog.bytesOf 65) = true:=by
 have h9 : Tryz.prog.bytesOf 65 = 24:=by kernel_rfl
 rw [h9]
 unfold roomB
 have h1 : n * 24 ≤ 140737488355328:=by omega
 have h2 : n ≤ 4611686018427387904:=by omega
 rw [decide_eq_true h1,decide_eq_true h2]
 rfl
theorem mrg_ok (out : List AV) (e : AV) (h : out.all okO = true) : (mrg out e).all okO = true:=by
 unfold mrg
 cases hasA (pS e) out
 ·rw [cond_false,List.all_append,h];rfl
 ·exact h
noncomputable def b17 : Code:=((Tryz.f17.body.map loopsOf).getD []).headD .skip
noncomputable def L17 : List AV → List (Option Row) → Tr LOut
 | [.ptr 1 0,.own 192,.own 9999,.slv (.agg [.str,.int .i64]) es,.int .i64 n,.int .i64 i],[some (.box false [.int .i64 0,.int .i64 0]),some (.box false [.mpv ms]),some (.arr false (.agg [.str,.int .i64]) e out none)] =>
  .gd (cnt n i es.length && (decide (e = 65 ∧ out.length ≤ i.toNat ∧ es.length ≤ 300) && (es.all okR && (out.all okO && eqB ms (mpOf 0 out))))) (.leaf (.exit 0,[.ptr 1 0,.own 192,.own 9999,.slv sR es,.int .i64 n,.int .i64 es.length],[some (.box false [.int .i64 0,.int .i64 0]),some (.box false [.mpv (mpOf 0 ((es.drop i.toNat).foldl mrg out))]),some (.arr false sR e ((es.drop i.toNat).foldl mrg out) none)]))
 | _,_=>.no
noncomputable def l17 : Ev.Loop:=⟨{ len:=64,slots:=[3,4,5,15,16,17],rows:=[1,192,9999],homes:=[(5,9999,65)] },ofL L17⟩
def μ17 (vs : List AV) (_ : List (Option Row)) : Nat:=match vs with
 | [_,_,_,_,.int _ n,.int _ i]=>(n - i).toNat
 | _=>0
theorem loop17 : LoopOK Tryz.prog G17 [(6,l17)] b17 l17:=by
 refine loopT g17.natOK rfl (KOK.nil (by kernel_rfl)) μ17 (fun ρ vs rs k r h=>?_)
 unfold L17 at h
 split at h
 ·rename_i es n i ms e out
  obtain ⟨hc,hk⟩:=gd_some h
  simp only [Bool.and_eq_true] at hc
  obtain ⟨hc,hb,hes,hout,hms⟩:=hc
  obtain ⟨rfl,ho,hl⟩:=of_decide_eq_true hb
  obtain ⟨rfl,hs,j,rfl,hj⟩:=cnt_spec hc
  rw [Int.toNat_natCast] at hk ho
  refine Eq.trans (b:=bif decide ((↑j : Int) < (↑es.length : Int)) then bif inb (↑j : Int) es.length then bif smallS (pS (es.getD j AV.unk)).length then bif !adB (pS (es.getD j AV.unk)) then k Ex.ret [AV.ptr 1 (0 : Nat),AV.own 192,AV.own 9999,AV.slv (Sh.agg [Sh.str,Sh.int IntKind.i64]) es,AV.int .i64 (↑es.length : Int),AV.int .i64 (↑j : Int)] [some (Row.box false [AV.int .i64 10,AV.int .i64 (↑j : Int)]),some (Row.box false [AV.mpv ms]),some (Row.arr false (Sh.agg [Sh.str,Sh.int IntKind.i64]) 65 out none)] else bif !ntB (pN (es.getD j AV.unk)) then k Ex.ret [AV.ptr 1 (0 : Nat),AV.own 192,AV.own 9999,AV.slv (Sh.agg [Sh.str,Sh.int IntKind.i64]) es,AV.int .i64 (↑es.length : Int),AV.int .i64 (↑j : Int)] [some (Row.box false [AV.int .i64 3,AV.int .i64 (↑j : Int)]),some (Row.box false [AV.mpv ms]),some (Row.arr false (Sh.agg [Sh.str,Sh.int IntKind.i64]) 65 out none)] else bif mpOK (shOf Tryz.prog depth (9 : Nat)) (shOf Tryz.prog depth (3 : Nat)) ms then bif mpHas (AV.str (pS (es.getD j AV.unk))) ms then bif inb ((mpGet (AV.str (pS (es.getD j AV.unk))) ms).cells.headD AV.unk).toInt out.length then bif decide (((mpGet (AV.str (pS (es.getD j AV.unk))) ms).cells.headD AV.unk).toInt.toNat < out.length) then bif inb ((mpGet (AV.str (pS (es.getD j AV.unk))) ms).cells.headD AV.unk).toInt out.length then bif decide (((mpGet (AV.str (pS (es.getD j AV.unk))) ms).cells.headD AV.unk).toInt.toNat < out.length) then bif decide (((↑es.length : Int) - IntKind.i64.wrap ((↑j : Int) + (1 : Int))).toNat < ((↑es.length : Int) - (↑j : Int)).toNat) then bif cnt (↑es.length : Int) (IntKind.i64.wrap ((↑j : Int) + (1 : Int))) es.length && (decide ((65 : TypeId) = (65 : TypeId) ∧ (out.set ((mpGet (AV.str (pS (es.getD j AV.unk))) ms).cells.headD AV.unk).toInt.toNat (mkAV (Sh.agg [Sh.str,Sh.int IntKind.i64]) [AV.str (pS (out.getD ((mpGet (AV.str (pS (es.getD j AV.unk))) ms).cells.headD AV.unk).toInt.toNat AV.unk)),AV.int .i64 (IntKind.i64.wrap (↑(BitVec.ofInt IntKind.i64.bits (pN (out.getD ((mpGet (AV.str (pS (es.getD j AV.unk))) ms).cells.headD AV.unk).toInt.toNat AV.unk)) ||| BitVec.ofInt IntKind.i64.bits (pN (es.getD j AV.unk))).toNat : Int))])).length ≤ (IntKind.i64.wrap ((↑j : Int) + (1 : Int))).toNat ∧ es.length ≤ (300 : Nat)) && (es.all okR && ((out.set ((mpGet (AV.str (pS (es.getD j AV.unk))) ms).cells.headD AV.unk).toInt.toNat (mkAV (Sh.agg [Sh.str,Sh.int IntKind.i64]) [AV.str (pS (out.getD ((mpGet (AV.str (pS (es.getD j AV.unk))) ms).cells.headD AV.unk).toInt.toNat AV.unk)),AV.int .i64 (IntKind.i64.wrap (↑(BitVec.ofInt IntKind.i64.bits (pN (out.getD ((mpGet (AV.str (pS (es.getD j AV.unk))) ms).cells.headD AV.unk).toInt.toNat AV.unk)) ||| BitVec.ofInt IntKind.i64.bits (pN (es.getD j AV.unk))).toNat : Int))])).all okO && eqB ms (mpOf (0 : Nat) (out.set ((mpGet (AV.str (pS (es.getD j AV.unk))) ms).cells.headD AV.unk).toInt.toNat (mkAV (Sh.agg [Sh.str,Sh.int IntKind.i64]) [AV.str (pS (out.getD ((mpGet (AV.str (pS (es.getD j AV.unk))) ms).cells.headD AV.unk).toInt.toNat AV.unk)),AV.int .i64 (IntKind.i64.wrap (↑(BitVec.ofInt IntKind.i64.bits (pN (out.getD ((mpGet (AV.str (pS (es.getD j AV.unk))) ms).cells.headD AV.unk).toInt.toNat AV.unk)) ||| BitVec.ofInt IntKind.i64.bits (pN (es.getD j AV.unk))).toNat : Int))])))))) then k (Ex.exit (0 : Nat)) [AV.ptr 1 (0 : Nat),AV.own 192,AV.own 9999,AV.slv (Sh.agg [Sh.str,Sh.int IntKind.i64]) es,AV.int .i64 (↑es.length : Int),AV.int .i64 (↑es.length : Int)] [some (Row.box false [AV.int .i64 0,AV.int .i64 0]),some (Row.box false [AV.mpv (mpOf (0 : Nat) (List.foldl mrg (out.set ((mpGet (AV.str (pS (es.getD j AV.unk))) ms).cells.headD AV.unk).toInt.toNat (mkAV (Sh.agg [Sh.str,Sh.int IntKind.i64]) [AV.str (pS (out.getD ((mpGet (AV.str (pS (es.getD j AV.unk))) ms).cells.headD AV.unk).toInt.toNat AV.unk)),AV.int .i64 (IntKind.i64.wrap (↑(BitVec.ofInt IntKind.i64.bits (pN (out.getD ((mpGet (AV.str (pS (es.getD j AV.unk))) ms).cells.headD AV.unk).toInt.toNat AV.unk)) ||| BitVec.ofInt IntKind.i64.bits (pN (es.getD j AV.unk))).toNat : Int))])) (List.drop (IntKind.i64.wrap ((↑j : Int) + (1 : Int))).toNat es)))]),some (Row.arr false (Sh.agg [Sh.str,Sh.int IntKind.i64]) 65 (List.foldl mrg (out.set ((mpGet (AV.str (pS (es.getD j AV.unk))) ms).cells.headD AV.unk).toInt.toNat (mkAV (Sh.agg [Sh.str,Sh.int IntKind.i64]) [AV.str (pS (out.getD ((mpGet (AV.str (pS (es.getD j AV.unk))) ms).cells.headD AV.unk).toInt.toNat AV.unk)),AV.int .i64 (IntKind.i64.wrap (↑(BitVec.ofInt IntKind.i64.bits (pN (out.getD ((mpGet (AV.str (pS (es.getD j AV.unk))) ms).cells.headD AV.unk).toInt.toNat AV.unk)) ||| BitVec.ofInt IntKind.i64.bits (pN (es.getD j AV.unk))).toNat : Int))])) (List.drop (IntKind.i64.wrap ((↑j : Int) + (1 : Int))).toNat es)) none)] else none else none else none else none else none else none else bif mpOK (shOf Tryz.prog depth (9 : Nat)) (shOf Tryz.prog depth (3 : Nat)) ms then bif roomB (out.length + [AV.agg [AV.str (pS (es.getD j AV.unk)),AV.int .i64 (pN (es.getD j AV.unk))]].length) (Tryz.prog.bytesOf 65) then bif decide (((↑es.length : Int) - IntKind.i64.wrap ((↑j : Int) + (1 : Int))).toNat < ((↑es.length : Int) - (↑j : Int)).toNat) then bif cnt (↑es.length : Int) (IntKind.i64.wrap ((↑j : Int) + (1 : Int))) es.length && (decide ((65 : Nat) = (65 : TypeId) ∧ (out ++ [AV.agg [AV.str (pS (es.getD j AV.unk)),AV.int .i64 (pN (es.getD j AV.unk))]]).length ≤ (IntKind.i64.wrap ((↑j : Int) + (1 : Int))).toNat ∧ es.length ≤ (300 : Nat)) && (es.all okR && ((out ++ [AV.agg [AV.str (pS (es.getD j AV.unk)),AV.int .i64 (pN (es.getD j AV.unk))]]).all okO && eqB (mpPut (AV.str (pS (es.getD j AV.unk))) (AV.int .i64 (↑out.length : Int)) ms) (mpOf (0 : Nat) (out ++ [AV.agg [AV.str (pS (es.getD j AV.unk)),AV.int .i64 (pN (es.getD j AV.unk))]]))))) then k (Ex.exit (0 : Nat)) [AV.ptr 1 (0 : Nat),AV.own 192,AV.own 9999,AV.slv (Sh.agg [Sh.str,Sh.int IntKind.i64]) es,AV.int .i64 (↑es.length : Int),AV.int .i64 (↑es.length : Int)] [some (Row.box false [AV.int .i64 0,AV.int .i64 0]),some (Row.box false [AV.mpv (mpOf (0 : Nat) (List.foldl mrg (out ++ [AV.agg [AV.str (pS (es.getD j AV.unk)),AV.int .i64 (pN (es.getD j AV.unk))]]) (List.drop (IntKind.i64.wrap ((↑j : Int) + (1 : Int))).toNat es)))]),some (Row.arr false (Sh.agg [Sh.str,Sh.int IntKind.i64]) 65 (List.foldl mrg (out ++ [AV.agg [AV.str (pS (es.getD j AV.unk)),AV.int .i64 (pN (es.getD j AV.unk))]]) (List.drop (IntKind.i64.wrap ((↑j : Int) + (1 : Int))).toNat es)) none)] else none else none else none else none else none else none else none else k (Ex.exit (0 : Nat)) [AV.ptr 1 (0 : Nat),AV.own 192,AV.own 9999,AV.slv (Sh.agg [Sh.str,Sh.int IntKind.i64]) es,AV.int .i64 (↑es.length : Int),AV.int .i64 (↑j : Int)] [some (Row.box false [AV.int .i64 0,AV.int .i64 0]),some (Row.box false [AV.mpv ms]),some (Row.arr false (Sh.agg [Sh.str,Sh.int IntKind.i64]) 65 out none)]) (by kernel_rfl) ?_
  rw [← hk]
  obtain rfl:=eqB_iff.1 hms
  by_cases hlt : j < es.length
  ·obtain ⟨e1,e2,e3,e4,e5⟩:=cnt_facts hlt hs
   have hr:=all_at hes hlt
   unfold okR at hr
   simp only [Bool.and_eq_true,beq_iff_eq] at hr
   obtain ⟨r1,r2,r3⟩:=hr
   rw [fold_step _ _ _ _ hlt]
   have e6 : (!ntB 1) = false:=rfl
   have e7:=mpOf_ok 0 out
   simp only [e1,e2,e3,e4,e5,r1,r2,r3,e6,e7,sh9,sh3,hes,mpOf_has,cond_true,cond_false,Bool.not_true,Int.toNat_natCast]
   cases hh : hasA (pS (es.getD j .unk)) out with
   | true =>
    obtain ⟨i,hi,hg⟩:=mpOf_get _ 0 out hh
    obtain ⟨s,g1,g2⟩:=okO_at hout hi
    have e8 : ((mpGet (.str (pS (es.getD j .unk))) (mpOf 0 out)).cells.headD .unk).toInt = (i : Int):=by rw [hg,Nat.zero_add];rfl
    have e9 : inb (i : Int) out.length = true:=inb_true (by omega) (by omega)
    have e10 : decide (i < out.length) = true:=decide_eq_true hi
    have e11 : (mkAV (Sh.agg [Sh.str,Sh.int IntKind.i64]) [AV.str (pS (AV.agg [AV.str s,AV.int .i64 1])),AV.int .i64 (IntKind.i64.wrap ((BitVec.ofInt IntKind.i64.bits (pN (AV.agg [AV.str s,AV.int .i64 1])) ||| BitVec.ofInt IntKind.i64.bits 1).toNat : Int))]) = AV.agg [AV.str s,AV.int .i64 1]:=by
     have : IntKind.i64.wrap ((BitVec.ofInt IntKind.i64.bits 1 ||| BitVec.ofInt IntKind.i64.bits 1).toNat : Int) = 1:=by decide
     show AV.agg [.str s,.int .i64 (IntKind.i64.wrap ((BitVec.ofInt IntKind.i64.bits 1 ||| BitVec.ofInt IntKind.i64.bits 1).toNat : Int))] = _
     rw [this]
    have e12 : decide (True ∧ out.length ≤ j + 1 ∧ es.length ≤ 300) = true:=decide_eq_true ⟨trivial,by omega,hl⟩
    have e13 : eqB (mpOf 0 out) (mpOf 0 out) = true:=eqB_iff.2 rfl
    have e14 : mrg out (es.getD j .unk) = out:=by unfold mrg;rw [hh];rfl
    rw [e14]
    simp only [e8,e9,e10,Int.toNat_natCast,g1,e11,g2,e12,e13,hout,cond_true,Bool.and_self]
    rfl
   | false =>
    have e8 : ∀ x : AV,roomB (out.length + ([x] : List AV).length) (Tryz.prog.bytesOf 65) = true:=fun x=>room65 (by rw [List.length_singleton];omega)
    have e9 : mrg out (es.getD j .unk) = out ++ [.agg [.str (pS (es.getD j .unk)),.int .i64 1]]:=by unfold mrg;rw [hh];rfl
    have e10:=mrg_ok out (es.getD j .unk) hout
    rw [e9] at e10
    have e11 : mpPut (.str (pS (es.getD j .unk))) (.int .i64 out.length) (mpOf 0 out) = mpOf 0 (out ++ [.agg [.str (pS (es.getD j .unk)),.int .i64 1]]):=by
     unfold mpPut
     rw [mpOf_has,hh,cond_false,mpOf_app,Nat.zero_add]
     rfl
    have e12 : decide (True ∧ (out ++ [AV.agg [.str (pS (es.getD j .unk)),.int .i64 1]]).length ≤ j + 1 ∧ es.length ≤ 300) = true:=decide_eq_true ⟨trivial,by rw [List.length_append,List.length_singleton];omega,hl⟩
    have e13 : ∀ x,eqB x x = true:=fun x=>eqB_iff.2 rfl
    rw [e9]
    simp only [e8,e10,e11,e12,e13,cond_true,cond_false,Bool.and_self]
    rfl
  ·obtain rfl : j = es.length:=by omega
   rw [decide_eq_false (by omega),List.drop_length]
   rfl
 ·cases h
def mgR (es : List AV) : List AV:=es.foldl mrg []
def F17 : List AV → Tr AV
 | [.slv (.agg [.str,.int .i64]) es]=>.gd (decide (es.length ≤ 300) && es.all okR) (.leaf (.tup [.slv sR (mgR es),.agg [.int .i64 0,.int .i64 0]]))
 | _=>.no
theorem ok17 : SumOK Tryz.prog 17 (ofT F17) ∧ SNat (ofT F17):=by
 refine fn1 (K:=[(6,l17)]) (b:=b17) (l:=l17) g17 Tryz.func17 (by kernel_rfl) (by kernel_rfl) loop17 fun ρ avs k r h=>?_
 unfold F17 at h
 split at h
 ·rename_i es
  obtain ⟨hc,hk⟩:=gd_some h
  simp only [Bool.and_eq_true] at hc
  obtain ⟨h1,h2⟩:=hc
  have hl:=of_decide_eq_true h1
  refine Eq.trans (b:=bif decide ((↑es.length : Int) > (300 : Int)) then k (AV.tup [AV.slv (Sh.agg [Sh.str,Sh.int IntKind.i64]) [],AV.agg [AV.int .i64 2,AV.int .i64 (-1 : Int)]]) else bif cnt (↑es.length : Int) (0 : Int) es.length && (decide (((5 : Nat),(9999 : Nat),(65 : TypeId)).snd.snd = (65 : TypeId) ∧ ([] : List AV).length ≤ Int.toNat (0 : Int) ∧ es.length ≤ (300 : Nat)) && (es.all okR && ([].all okO && eqB [] []))) then k (AV.tup [AV.slv (Sh.agg [Sh.str,Sh.int IntKind.i64]) (List.foldl mrg [] (List.drop (0 : Nat) es)),AV.agg [AV.int .i64 0,AV.int .i64 0]]) else none) (by kernel_rfl) ?_
  have e1 : decide ((es.length : Int) > 300) = false:=decide_eq_false (by omega)
  have e2 : cnt (es.length : Int) 0 es.length = true:=cnt_zero (decide_eq_true (by omega))
  have e3 : decide (((5,9999,65) : Nat × Nat × TypeId).2.2 = 65 ∧ ([] : List AV).length ≤ Int.toNat 0 ∧ es.length ≤ 300) = true:=decide_eq_true ⟨rfl,Nat.zero_le _,hl⟩
  have e4 : eqB [] [] = true:=eqB_iff.2 rfl
  rw [← hk,e1,e2,e3,h2,e4]
  rfl
 ·cases h
end Go.Proofs.YtijdnecnjenleaaGreatDoor
