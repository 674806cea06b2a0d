/-
  Equality of rate limits.
-/
import Derived.Test.YthacpbjcgmbplaaRtF
/-
  Rate limits: Allow of a key that is known.
-/
namespace Go.Proofs.Ythacpbjcgmbplaa
open Go.Ev

def leftU (now w : Int) (us : List AV) : List AV := us.filter fun x => !oldU now w x
def putKs (ks : List AV) (f : Nat) (us : List AV) : List AV := (ks.take f).map kE ++ .agg [.str (kN (ks.getD f .unk)), .slv sU us] :: (ks.drop (f + 1)).map kE
def zeroR : AV := .agg [.int .i64 0, .int .i64 0, .slv sK []]
def ratV (w m : Int) (ks : List AV) : AV := .agg [.int .i64 w, .int .i64 m, .slv sK ks]
def lateU (us : List AV) (now : Int) : Bool := decide ((us.length : Int) > 0) && decide (uA (us.getD (us.length - 1) .unk) > now)
def useV (now n : Int) : AV := .agg [.int .i64 now, .int .i64 n]
/-- What Allow returns for a key that is known, at place f. -/
def allowA (w m : Int) (ks : List AV) (f : Nat) (n now : Int) : AV :=
  bif lateU (kU (ks.getD f .unk)) now then .tup [zeroR, .bool false, fault (19, (f : Nat))] else
  bif decide (sumU n (leftU now w (kU (ks.getD f .unk))) > m) then .tup [ratV w m (putKs ks f (leftU now w (kU (ks.getD f .unk)))), .bool false, fault (0, 0)] else
  bif ((leftU now w (kU (ks.getD f .unk))).length : Int) == 300 then .tup [zeroR, .bool false, fault (2, (f : Nat))] else
  .tup [ratV w m (putKs ks f (leftU now w (kU (ks.getD f .unk)) ++ [useV now n])), .bool true, fault (0, 0)]
theorem run7a (f : Nat) (w m : Int) (ks : List AV) (s : List UInt8) (n now : Int) (ρ : Type) (k : AV → Option ρ) (hf : f = atK s ks) (hv : ((valF w m ks s n now).1 != 0) = false) (hi : isK s ks = true) (hl : ks.length ≤ 300) (hlt : f < ks.length)
    (hok : ks.all okL = true) (hu : (kU (ks.getD f .unk)).length ≤ 300) (hsh : (kU (ks.getD f .unk)).all (hasSh sU) = true) :
    evF Try.prog (G7a f) [(17, l7a)] Try.f7 ρ [.agg [.int .i64 w, .int .i64 m, .slv sK ks], .str s, .int .i64 n, .int .i64 now] k = k (allowA w m ks f n now) := by
  refine Eq.trans (b := bif (valF w m ks s n now).fst != (0 : Int) then k (AV.tup [AV.agg [AV.int IntKind.i64 (0 : Int), AV.int IntKind.i64 (0 : Int), AV.slv (Sh.agg [Sh.str, (Sh.agg [Sh.int IntKind.i64, Sh.int IntKind.i64]).slice]) []], AV.bool false, AV.agg [AV.int IntKind.i64 (valF w m ks s n now).fst, AV.int IntKind.i64 (valF w m ks s n now).snd]]) else bif decide (ks.length ≤ (1000000 : Nat)) then bif !isK s ks then bif (↑ks.length : Int) == (300 : Int) then k (AV.tup [AV.agg [AV.int IntKind.i64 (0 : Int), AV.int IntKind.i64 (0 : Int), AV.slv (Sh.agg [Sh.str, (Sh.agg [Sh.int IntKind.i64, Sh.int IntKind.i64]).slice]) []], AV.bool false, AV.agg [AV.int IntKind.i64 (2 : Int), AV.int IntKind.i64 (-1 : Int)]]) else bif decide (ks.length ≤ (1000000 : Nat)) && (decide (f < ks.length) && ks.all okL) then bif !isK s ks then none else bif inb (↑(atK s ks) : Int) ((List.map kE (List.take f ks)).length + ((List.map kE (List.drop (f + (1 : Nat)) ks)).length + (1 : Nat))) then bif decide ((↑(atK s ks) : Int).toNat = (List.map kE (List.take f ks)).length) then bif decide ((↑(kU (ks.getD f AV.unk)).length : Int) > (0 : Int)) then bif decide ((↑(atK s ks) : Int).toNat = (List.map kE (List.take f ks)).length) then bif inb (IntKind.i64.wrap ((↑(kU (ks.getD f AV.unk)).length : Int) - (1 : Int))) (kU (ks.getD f AV.unk)).length then bif decide ((IntKind.i64.wrap ((↑(kU (ks.getD f AV.unk)).length : Int) - (1 : Int))).toNat < (kU (ks.getD f AV.unk)).length) then bif decide ((((kU (ks.getD f AV.unk)).getD (IntKind.i64.wrap ((↑(kU (ks.getD f AV.unk)).length : Int) - (1 : Int))).toNat AV.unk).cells.headD AV.unk).toInt > now) then k (AV.tup [AV.agg [AV.int IntKind.i64 (0 : Int), AV.int IntKind.i64 (0 : Int), AV.slv (Sh.agg [Sh.str, (Sh.agg [Sh.int IntKind.i64, Sh.int IntKind.i64]).slice]) []], AV.bool false, AV.agg [AV.int IntKind.i64 (19 : Int), AV.int IntKind.i64 (↑(atK s ks) : Int)]]) else bif decide ((↑(atK s ks) : Int).toNat = (List.map kE (List.take f ks)).length) then bif ((fun x => PID + x) (0 : Nat)).beq PID && (((fun x => PID + x) ((fun x => x + (1 : Nat)) (0 : Nat))).beq (PID + (1 : Nat)) && (((fun x => PID + x) ((fun x => x + (1 : Nat)) ((fun x => x + (1 : Nat)) (0 : Nat)))).beq (PID + (2 : Nat)) && (((fun x => PID + x) ((fun x => x + (1 : Nat)) ((fun x => x + (1 : Nat)) ((fun x => x + (1 : Nat)) (0 : Nat))))).beq (PID + (3 : Nat)) && (((fun x => PID + x) (0 : Nat)).beq PID && (decide ((kU (ks.getD f AV.unk)).length ≤ (1000000 : Nat)) && (kU (ks.getD f AV.unk)).all (hasSh sU)))))) then bif decide ((↑(atK s ks) : Int).toNat = (List.map kE (List.take f ks)).length) then bif decide ((↑(atK s ks) : Int).toNat = (List.map kE (List.take f ks)).length) then bif cnt (↑(List.filter (fun x => !oldU now w x) (kU (ks.getD f AV.unk))).length : Int) (0 : Int) (List.filter (fun x => !oldU now w x) (kU (ks.getD f AV.unk))).length && ((newId ((7 : Nat) * (64 : Nat) + ((0 : Nat) + (1 : Nat) + (1 : Nat))) (RID - RID)).beq (4294967746 : Nat) && ((newId ((14 : Nat) * (64 : Nat) + ((0 : Nat) + (1 : Nat) + (1 : Nat) + (1 : Nat) + (1 : Nat) + (1 : Nat) + (1 : Nat))) (RID - RID)).beq UID && ((newId ((7 : Nat) * (64 : Nat) + ((0 : Nat) + (1 : Nat) + (1 : Nat))) (RID - RID)).beq (4294967746 : Nat) && (newId ((14 : Nat) * (64 : Nat) + ((0 : Nat) + (1 : Nat) + (1 : Nat) + (1 : Nat) + (1 : Nat) + (1 : Nat) + (1 : Nat))) (RID - RID)).beq UID))) then bif decide (sumU n (List.drop (0 : Nat) (List.filter (fun x => !oldU now w x) (kU (ks.getD f AV.unk)))) > m) then k (AV.tup [AV.agg [AV.int IntKind.i64 w, AV.int IntKind.i64 m, AV.slv (Sh.agg [Sh.str, (Sh.agg [Sh.int IntKind.i64, Sh.int IntKind.i64]).slice]) (List.map kE (List.take f ks) ++ mkAV sK [AV.str (kN (ks.getD f AV.unk)), AV.slv (Sh.agg [Sh.int IntKind.i64, Sh.int IntKind.i64]) (List.filter (fun x => !oldU now w x) (kU (ks.getD f AV.unk)))] :: List.map kE (List.drop (f + (1 : Nat)) ks))], AV.bool false, AV.agg [AV.int IntKind.i64 (0 : Int), AV.int IntKind.i64 (0 : Int)]]) else bif decide ((↑(atK s ks) : Int).toNat = (List.map kE (List.take f ks)).length) then bif (↑(List.filter (fun x => !oldU now w x) (kU (ks.getD f AV.unk))).length : Int) == (300 : Int) then k (AV.tup [AV.agg [AV.int IntKind.i64 (0 : Int), AV.int IntKind.i64 (0 : Int), AV.slv (Sh.agg [Sh.str, (Sh.agg [Sh.int IntKind.i64, Sh.int IntKind.i64]).slice]) []], AV.bool false, AV.agg [AV.int IntKind.i64 (2 : Int), AV.int IntKind.i64 (↑(atK s ks) : Int)]]) else bif decide ((↑(atK s ks) : Int).toNat = (List.map kE (List.take f ks)).length) then bif roomB ((List.filter (fun x => !oldU now w x) (kU (ks.getD f AV.unk))).length + [AV.agg [AV.int IntKind.i64 now, AV.int IntKind.i64 n]].length) (Try.prog.bytesOf (36 : Nat)) then bif decide ((↑(atK s ks) : Int).toNat = (List.map kE (List.take f ks)).length) then k (AV.tup [AV.agg [AV.int IntKind.i64 w, AV.int IntKind.i64 m, AV.slv (Sh.agg [Sh.str, (Sh.agg [Sh.int IntKind.i64, Sh.int IntKind.i64]).slice]) (List.map kE (List.take f ks) ++ mkAV sK [AV.str (kN (ks.getD f AV.unk)), AV.slv (Sh.agg [Sh.int IntKind.i64, Sh.int IntKind.i64]) (List.filter (fun x => !oldU now w x) (kU (ks.getD f AV.unk)) ++ [AV.agg [AV.int IntKind.i64 now, AV.int IntKind.i64 n]])] :: List.map kE (List.drop (f + (1 : Nat)) ks))], AV.bool true, AV.agg [AV.int IntKind.i64 (0 : Int), AV.int IntKind.i64 (0 : Int)]]) else none else none else none else none else none else none else none else none else none else none else none else none else bif decide ((↑(atK s ks) : Int).toNat = (List.map kE (List.take f ks)).length) then bif ((fun x => PID + x) (0 : Nat)).beq PID && (((fun x => PID + x) ((fun x => x + (1 : Nat)) (0 : Nat))).beq (PID + (1 : Nat)) && (((fun x => PID + x) ((fun x => x + (1 : Nat)) ((fun x => x + (1 : Nat)) (0 : Nat)))).beq (PID + (2 : Nat)) && (((fun x => PID + x) ((fun x => x + (1 : Nat)) ((fun x => x + (1 : Nat)) ((fun x => x + (1 : Nat)) (0 : Nat))))).beq (PID + (3 : Nat)) && (((fun x => PID + x) (0 : Nat)).beq PID && (decide ((kU (ks.getD f AV.unk)).length ≤ (1000000 : Nat)) && (kU (ks.getD f AV.unk)).all (hasSh sU)))))) then bif decide ((↑(atK s ks) : Int).toNat = (List.map kE (List.take f ks)).length) then bif decide ((↑(atK s ks) : Int).toNat = (List.map kE (List.take f ks)).length) then bif cnt (↑(List.filter (fun x => !oldU now w x) (kU (ks.getD f AV.unk))).length : Int) (0 : Int) (List.filter (fun x => !oldU now w x) (kU (ks.getD f AV.unk))).length && ((newId ((7 : Nat) * (64 : Nat) + ((0 : Nat) + (1 : Nat) + (1 : Nat))) (RID - RID)).beq (4294967746 : Nat) && ((newId ((14 : Nat) * (64 : Nat) + ((0 : Nat) + (1 : Nat) + (1 : Nat) + (1 : Nat) + (1 : Nat) + (1 : Nat) + (1 : Nat))) (RID - RID)).beq UID && ((newId ((7 : Nat) * (64 : Nat) + ((0 : Nat) + (1 : Nat) + (1 : Nat))) (RID - RID)).beq (4294967746 : Nat) && (newId ((14 : Nat) * (64 : Nat) + ((0 : Nat) + (1 : Nat) + (1 : Nat) + (1 : Nat) + (1 : Nat) + (1 : Nat) + (1 : Nat))) (RID - RID)).beq UID))) then bif decide (sumU n (List.drop (0 : Nat) (List.filter (fun x => !oldU now w x) (kU (ks.getD f AV.unk)))) > m) then k (AV.tup [AV.agg [AV.int IntKind.i64 w, AV.int IntKind.i64 m, AV.slv (Sh.agg [Sh.str, (Sh.agg [Sh.int IntKind.i64, Sh.int IntKind.i64]).slice]) (List.map kE (List.take f ks) ++ mkAV sK [AV.str (kN (ks.getD f AV.unk)), AV.slv (Sh.agg [Sh.int IntKind.i64, Sh.int IntKind.i64]) (List.filter (fun x => !oldU now w x) (kU (ks.getD f AV.unk)))] :: List.map kE (List.drop (f + (1 : Nat)) ks))], AV.bool false, AV.agg [AV.int IntKind.i64 (0 : Int), AV.int IntKind.i64 (0 : Int)]]) else bif decide ((↑(atK s ks) : Int).toNat = (List.map kE (List.take f ks)).length) then bif (↑(List.filter (fun x => !oldU now w x) (kU (ks.getD f AV.unk))).length : Int) == (300 : Int) then k (AV.tup [AV.agg [AV.int IntKind.i64 (0 : Int), AV.int IntKind.i64 (0 : Int), AV.slv (Sh.agg [Sh.str, (Sh.agg [Sh.int IntKind.i64, Sh.int IntKind.i64]).slice]) []], AV.bool false, AV.agg [AV.int IntKind.i64 (2 : Int), AV.int IntKind.i64 (↑(atK s ks) : Int)]]) else bif decide ((↑(atK s ks) : Int).toNat = (List.map kE (List.take f ks)).length) then bif roomB ((List.filter (fun x => !oldU now w x) (kU (ks.getD f AV.unk))).length + [AV.agg [AV.int IntKind.i64 now, AV.int IntKind.i64 n]].length) (Try.prog.bytesOf (36 : Nat)) then bif decide ((↑(atK s ks) : Int).toNat = (List.map kE (List.take f ks)).length) then k (AV.tup [AV.agg [AV.int IntKind.i64 w, AV.int IntKind.i64 m, AV.slv (Sh.agg [Sh.str, (Sh.agg [Sh.int IntKind.i64, Sh.int IntKind.i64]).slice]) (List.map kE (List.take f ks) ++ mkAV sK [AV.str (kN (ks.getD f AV.unk)), AV.slv (Sh.agg [Sh.int IntKind.i64, Sh.int IntKind.i64]) (List.filter (fun x => !oldU now w x) (kU (ks.getD f AV.unk)) ++ [AV.agg [AV.int IntKind.i64 now, AV.int IntKind.i64 n]])] :: List.map kE (List.drop (f + (1 : Nat)) ks))], AV.bool true, AV.agg [AV.int IntKind.i64 (0 : Int), AV.int IntKind.i64 (0 : Int)]]) else none else none else none else none else none else none else none else none else none else none else none else none else bif decide (ks.length ≤ (1000000 : Nat)) && (decide (f < ks.length) && ks.all okL) then bif !isK s ks then none else bif inb (↑(atK s ks) : Int) ((List.map kE (List.take f ks)).length + ((List.map kE (List.drop (f + (1 : Nat)) ks)).length + (1 : Nat))) then bif decide ((↑(atK s ks) : Int).toNat = (List.map kE (List.take f ks)).length) then bif decide ((↑(kU (ks.getD f AV.unk)).length : Int) > (0 : Int)) then bif decide ((↑(atK s ks) : Int).toNat = (List.map kE (List.take f ks)).length) then bif inb (IntKind.i64.wrap ((↑(kU (ks.getD f AV.unk)).length : Int) - (1 : Int))) (kU (ks.getD f AV.unk)).length then bif decide ((IntKind.i64.wrap ((↑(kU (ks.getD f AV.unk)).length : Int) - (1 : Int))).toNat < (kU (ks.getD f AV.unk)).length) then bif decide ((((kU (ks.getD f AV.unk)).getD (IntKind.i64.wrap ((↑(kU (ks.getD f AV.unk)).length : Int) - (1 : Int))).toNat AV.unk).cells.headD AV.unk).toInt > now) then k (AV.tup [AV.agg [AV.int IntKind.i64 (0 : Int), AV.int IntKind.i64 (0 : Int), AV.slv (Sh.agg [Sh.str, (Sh.agg [Sh.int IntKind.i64, Sh.int IntKind.i64]).slice]) []], AV.bool false, AV.agg [AV.int IntKind.i64 (19 : Int), AV.int IntKind.i64 (↑(atK s ks) : Int)]]) else bif decide ((↑(atK s ks) : Int).toNat = (List.map kE (List.take f ks)).length) then bif ((fun x => PID + x) (0 : Nat)).beq PID && (((fun x => PID + x) ((fun x => x + (1 : Nat)) (0 : Nat))).beq (PID + (1 : Nat)) && (((fun x => PID + x) ((fun x => x + (1 : Nat)) ((fun x => x + (1 : Nat)) (0 : Nat)))).beq (PID + (2 : Nat)) && (((fun x => PID + x) ((fun x => x + (1 : Nat)) ((fun x => x + (1 : Nat)) ((fun x => x + (1 : Nat)) (0 : Nat))))).beq (PID + (3 : Nat)) && (((fun x => PID + x) (0 : Nat)).beq PID && (decide ((kU (ks.getD f AV.unk)).length ≤ (1000000 : Nat)) && (kU (ks.getD f AV.unk)).all (hasSh sU)))))) then bif decide ((↑(atK s ks) : Int).toNat = (List.map kE (List.take f ks)).length) then bif decide ((↑(atK s ks) : Int).toNat = (List.map kE (List.take f ks)).length) then bif cnt (↑(List.filter (fun x => !oldU now w x) (kU (ks.getD f AV.unk))).length : Int) (0 : Int) (List.filter (fun x => !oldU now w x) (kU (ks.getD f AV.unk))).length && ((newId ((7 : Nat) * (64 : Nat) + ((0 : Nat) + (1 : Nat) + (1 : Nat))) (RID - RID)).beq (4294967746 : Nat) && ((newId ((14 : Nat) * (64 : Nat) + ((0 : Nat) + (1 : Nat) + (1 : Nat) + (1 : Nat) + (1 : Nat) + (1 : Nat) + (1 : Nat))) (RID - RID)).beq UID && ((newId ((7 : Nat) * (64 : Nat) + ((0 : Nat) + (1 : Nat) + (1 : Nat))) (RID - RID)).beq (4294967746 : Nat) && (newId ((14 : Nat) * (64 : Nat) + ((0 : Nat) + (1 : Nat) + (1 : Nat) + (1 : Nat) + (1 : Nat) + (1 : Nat) + (1 : Nat))) (RID - RID)).beq UID))) then bif decide (sumU n (List.drop (0 : Nat) (List.filter (fun x => !oldU now w x) (kU (ks.getD f AV.unk)))) > m) then k (AV.tup [AV.agg [AV.int IntKind.i64 w, AV.int IntKind.i64 m, AV.slv (Sh.agg [Sh.str, (Sh.agg [Sh.int IntKind.i64, Sh.int IntKind.i64]).slice]) (List.map kE (List.take f ks) ++ mkAV sK [AV.str (kN (ks.getD f AV.unk)), AV.slv (Sh.agg [Sh.int IntKind.i64, Sh.int IntKind.i64]) (List.filter (fun x => !oldU now w x) (kU (ks.getD f AV.unk)))] :: List.map kE (List.drop (f + (1 : Nat)) ks))], AV.bool false, AV.agg [AV.int IntKind.i64 (0 : Int), AV.int IntKind.i64 (0 : Int)]]) else bif decide ((↑(atK s ks) : Int).toNat = (List.map kE (List.take f ks)).length) then bif (↑(List.filter (fun x => !oldU now w x) (kU (ks.getD f AV.unk))).length : Int) == (300 : Int) then k (AV.tup [AV.agg [AV.int IntKind.i64 (0 : Int), AV.int IntKind.i64 (0 : Int), AV.slv (Sh.agg [Sh.str, (Sh.agg [Sh.int IntKind.i64, Sh.int IntKind.i64]).slice]) []], AV.bool false, AV.agg [AV.int IntKind.i64 (2 : Int), AV.int IntKind.i64 (↑(atK s ks) : Int)]]) else bif decide ((↑(atK s ks) : Int).toNat = (List.map kE (List.take f ks)).length) then bif roomB ((List.filter (fun x => !oldU now w x) (kU (ks.getD f AV.unk))).length + [AV.agg [AV.int IntKind.i64 now, AV.int IntKind.i64 n]].length) (Try.prog.bytesOf (36 : Nat)) then bif decide ((↑(atK s ks) : Int).toNat = (List.map kE (List.take f ks)).length) then k (AV.tup [AV.agg [AV.int IntKind.i64 w, AV.int IntKind.i64 m, AV.slv (Sh.agg [Sh.str, (Sh.agg [Sh.int IntKind.i64, Sh.int IntKind.i64]).slice]) (List.map kE (List.take f ks) ++ mkAV sK [AV.str (kN (ks.getD f AV.unk)), AV.slv (Sh.agg [Sh.int IntKind.i64, Sh.int IntKind.i64]) (List.filter (fun x => !oldU now w x) (kU (ks.getD f AV.unk)) ++ [AV.agg [AV.int IntKind.i64 now, AV.int IntKind.i64 n]])] :: List.map kE (List.drop (f + (1 : Nat)) ks))], AV.bool true, AV.agg [AV.int IntKind.i64 (0 : Int), AV.int IntKind.i64 (0 : Int)]]) else none else none else none else none else none else none else none else none else none else none else none else none else bif decide ((↑(atK s ks) : Int).toNat = (List.map kE (List.take f ks)).length) then bif ((fun x => PID + x) (0 : Nat)).beq PID && (((fun x => PID + x) ((fun x => x + (1 : Nat)) (0 : Nat))).beq (PID + (1 : Nat)) && (((fun x => PID + x) ((fun x => x + (1 : Nat)) ((fun x => x + (1 : Nat)) (0 : Nat)))).beq (PID + (2 : Nat)) && (((fun x => PID + x) ((fun x => x + (1 : Nat)) ((fun x => x + (1 : Nat)) ((fun x => x + (1 : Nat)) (0 : Nat))))).beq (PID + (3 : Nat)) && (((fun x => PID + x) (0 : Nat)).beq PID && (decide ((kU (ks.getD f AV.unk)).length ≤ (1000000 : Nat)) && (kU (ks.getD f AV.unk)).all (hasSh sU)))))) then bif decide ((↑(atK s ks) : Int).toNat = (List.map kE (List.take f ks)).length) then bif decide ((↑(atK s ks) : Int).toNat = (List.map kE (List.take f ks)).length) then bif cnt (↑(List.filter (fun x => !oldU now w x) (kU (ks.getD f AV.unk))).length : Int) (0 : Int) (List.filter (fun x => !oldU now w x) (kU (ks.getD f AV.unk))).length && ((newId ((7 : Nat) * (64 : Nat) + ((0 : Nat) + (1 : Nat) + (1 : Nat))) (RID - RID)).beq (4294967746 : Nat) && ((newId ((14 : Nat) * (64 : Nat) + ((0 : Nat) + (1 : Nat) + (1 : Nat) + (1 : Nat) + (1 : Nat) + (1 : Nat) + (1 : Nat))) (RID - RID)).beq UID && ((newId ((7 : Nat) * (64 : Nat) + ((0 : Nat) + (1 : Nat) + (1 : Nat))) (RID - RID)).beq (4294967746 : Nat) && (newId ((14 : Nat) * (64 : Nat) + ((0 : Nat) + (1 : Nat) + (1 : Nat) + (1 : Nat) + (1 : Nat) + (1 : Nat) + (1 : Nat))) (RID - RID)).beq UID))) then bif decide (sumU n (List.drop (0 : Nat) (List.filter (fun x => !oldU now w x) (kU (ks.getD f AV.unk)))) > m) then k (AV.tup [AV.agg [AV.int IntKind.i64 w, AV.int IntKind.i64 m, AV.slv (Sh.agg [Sh.str, (Sh.agg [Sh.int IntKind.i64, Sh.int IntKind.i64]).slice]) (List.map kE (List.take f ks) ++ mkAV sK [AV.str (kN (ks.getD f AV.unk)), AV.slv (Sh.agg [Sh.int IntKind.i64, Sh.int IntKind.i64]) (List.filter (fun x => !oldU now w x) (kU (ks.getD f AV.unk)))] :: List.map kE (List.drop (f + (1 : Nat)) ks))], AV.bool false, AV.agg [AV.int IntKind.i64 (0 : Int), AV.int IntKind.i64 (0 : Int)]]) else bif decide ((↑(atK s ks) : Int).toNat = (List.map kE (List.take f ks)).length) then bif (↑(List.filter (fun x => !oldU now w x) (kU (ks.getD f AV.unk))).length : Int) == (300 : Int) then k (AV.tup [AV.agg [AV.int IntKind.i64 (0 : Int), AV.int IntKind.i64 (0 : Int), AV.slv (Sh.agg [Sh.str, (Sh.agg [Sh.int IntKind.i64, Sh.int IntKind.i64]).slice]) []], AV.bool false, AV.agg [AV.int IntKind.i64 (2 : Int), AV.int IntKind.i64 (↑(atK s ks) : Int)]]) else bif decide ((↑(atK s ks) : Int).toNat = (List.map kE (List.take f ks)).length) then bif roomB ((List.filter (fun x => !oldU now w x) (kU (ks.getD f AV.unk))).length + [AV.agg [AV.int IntKind.i64 now, AV.int IntKind.i64 n]].length) (Try.prog.bytesOf (36 : Nat)) then bif decide ((↑(atK s ks) : Int).toNat = (List.map kE (List.take f ks)).length) then k (AV.tup [AV.agg [AV.int IntKind.i64 w, AV.int IntKind.i64 m, AV.slv (Sh.agg [Sh.str, (Sh.agg [Sh.int IntKind.i64, Sh.int IntKind.i64]).slice]) (List.map kE (List.take f ks) ++ mkAV sK [AV.str (kN (ks.getD f AV.unk)), AV.slv (Sh.agg [Sh.int IntKind.i64, Sh.int IntKind.i64]) (List.filter (fun x => !oldU now w x) (kU (ks.getD f AV.unk)) ++ [AV.agg [AV.int IntKind.i64 now, AV.int IntKind.i64 n]])] :: List.map kE (List.drop (f + (1 : Nat)) ks))], AV.bool true, AV.agg [AV.int IntKind.i64 (0 : Int), AV.int IntKind.i64 (0 : Int)]]) else none else none else none else none else none else none else none else none else none else none else none else none else none) (by kernel_rfl) ?_
  have l1 : (List.map kE (List.take f ks)).length = f := by rw [List.length_map, List.length_take]; omega
  have l2 : (List.map kE (List.drop (f + 1) ks)).length = ks.length - (f + 1) := by rw [List.length_map, List.length_drop]
  rw [hi, l1, l2, ← hf]
  have hX : decide (((f : Nat) : Int).toNat = f) = true := decide_eq_true (Int.toNat_natCast f)
  have hinb : inb ((f : Nat) : Int) (f + (ks.length - (f + 1) + 1)) = true := inb_true (by omega) (by omega)
  have hg : (decide (ks.length ≤ 1000000) && (decide (f < ks.length) && ks.all okL)) = true := and_t (decide_eq_true (by omega)) (and_t (decide_eq_true hlt) hok)
  have h3 : ((ks.length : Int) == 300) = false ∨ ((ks.length : Int) == 300) = true := by cases (ks.length : Int) == 300 <;> simp
  have hfil : (leftU now w (kU (ks.getD f .unk))).length ≤ (kU (ks.getD f .unk)).length := List.length_filter_le _ _
  have hlu : (decide ((kU (ks.getD f .unk)).length ≤ 1000000) && (kU (ks.getD f .unk)).all (hasSh sU)) = true := and_t (decide_eq_true (by omega)) hsh
  have hcn : cnt ((leftU now w (kU (ks.getD f .unk))).length : Int) 0 (leftU now w (kU (ks.getD f .unk))).length = true := cnt_zero (decide_eq_true (by omega))
  have hroom : roomB ((leftU now w (kU (ks.getD f .unk))).length + [useV now n].length) (Try.prog.bytesOf 36) = true := roomB_small (by show _ + 1 ≤ _; omega) byU
  have hdrop : ∀ l : List AV, List.drop 0 l = l := fun _ => rfl
  rw [hv, hg, hX, hinb]
  unfold allowA lateU
  generalize hU : kU (ks.getD f .unk) = us at *
  unfold leftU at hcn hroom hfil ⊢
  unfold useV at hroom ⊢
  rw [hcn, hlu, hroom, show decide (ks.length ≤ 1000000) = true from decide_eq_true (by omega)]
  by_cases hp : (us.length : Int) > 0
  · have w1 : IntKind.i64.wrap ((us.length : Int) - 1) = ((us.length - 1 : Nat) : Int) := by
      rw [wrap_mid _ (by omega) (by omega)]
      omega
    have i1 : inb ((us.length - 1 : Nat) : Int) us.length = true := inb_true (by omega) (by omega)
    have i2 : decide (us.length - 1 < us.length) = true := decide_eq_true (by omega)
    have hraw : decide (((us.getD (us.length - 1) .unk).cells.headD .unk).toInt > now) = decide (uA (us.getD (us.length - 1) .unk) > now) := rfl
    rw [decide_eq_true hp, w1, Int.toNat_natCast, i1, i2, hraw]
    rw [show List.drop 0 (us.filter fun x => !oldU now w x) = us.filter fun x => !oldU now w x from rfl]
    cases decide (uA (us.getD (us.length - 1) .unk) > now)
    · cases decide (sumU n (us.filter fun x => !oldU now w x) > m)
      · cases ((us.filter fun x => !oldU now w x).length : Int) == 300 <;> rfl
      · rfl
    · rfl
  · rw [decide_eq_false hp]
    rw [show List.drop 0 (us.filter fun x => !oldU now w x) = us.filter fun x => !oldU now w x from rfl]
    cases decide (sumU n (us.filter fun x => !oldU now w x) > m)
    · cases ((us.filter fun x => !oldU now w x).length : Int) == 300 <;> rfl
    · rfl
end Go.Proofs.Ythacpbjcgmbplaa

/-
  Rate limits: Allow of a key that is not known.
-/
namespace Go.Proofs.Ythacpbjcgmbplaa
open Go.Ev

def insKs (ks : List AV) (i : Nat) (s : List UInt8) (us : List AV) : List AV := (ks.map kE).take i ++ .agg [.str s, .slv sU us] :: (ks.map kE).drop i
/-- What Allow returns for a key that is not known; i: its place. -/
def allowB (w m : Int) (ks : List AV) (s : List UInt8) (i : Nat) (n now : Int) : AV :=
  bif (ks.length : Int) == 300 then .tup [zeroR, .bool false, fault (2, -1)] else
  bif decide (n > m) then .tup [ratV w m (insKs ks i s []), .bool false, fault (0, 0)] else
  .tup [ratV w m (insKs ks i s [useV now n]), .bool true, fault (0, 0)]
theorem run7b (w m : Int) (ks : List AV) (s : List UInt8) (n now : Int) (ρ : Type) (k : AV → Option ρ) (hv : ((valF w m ks s n now).1 != 0) = false) (hi : isK s ks = false) (hl : ks.length ≤ 300) (hle : atK s ks ≤ ks.length)
    (hok : ks.all okL = true) :
    evF Try.prog G7b [(17, l7b)] Try.f7 ρ [.agg [.int .i64 w, .int .i64 m, .slv sK ks], .str s, .int .i64 n, .int .i64 now] k = k (allowB w m ks s (atK s ks) n now) := by
  refine Eq.trans (b := bif (valF w m ks s n now).fst != (0 : Int) then k (AV.tup [AV.agg [AV.int IntKind.i64 (0 : Int), AV.int IntKind.i64 (0 : Int), AV.slv (Sh.agg [Sh.str, (Sh.agg [Sh.int IntKind.i64, Sh.int IntKind.i64]).slice]) []], AV.bool false, AV.agg [AV.int IntKind.i64 (valF w m ks s n now).fst, AV.int IntKind.i64 (valF w m ks s n now).snd]]) else bif decide (ks.length ≤ (1000000 : Nat)) then bif !isK s ks then bif (↑ks.length : Int) == (300 : Int) then k (AV.tup [AV.agg [AV.int IntKind.i64 (0 : Int), AV.int IntKind.i64 (0 : Int), AV.slv (Sh.agg [Sh.str, (Sh.agg [Sh.int IntKind.i64, Sh.int IntKind.i64]).slice]) []], AV.bool false, AV.agg [AV.int IntKind.i64 (2 : Int), AV.int IntKind.i64 (-1 : Int)]]) else bif decide (ks.length ≤ (1000000 : Nat)) && ks.all okL then bif !isK s ks then bif ((fun x => PID + x) (0 : Nat)).beq PID && (((fun x => PID + x) ((fun x => x + (1 : Nat)) (0 : Nat))).beq (PID + (1 : Nat)) && decide ((0 : Int) ≤ (↑(atK s ks) : Int) ∧ (↑(atK s ks) : Int) ≤ (↑(List.map kE ks).length : Int) ∧ (List.map kE ks).length ≤ (100000 : Nat))) then bif inb (↑(atK s ks) : Int) ((List.take (↑(atK s ks) : Int).toNat (List.map kE ks)).length + ((List.drop (↑(atK s ks) : Int).toNat (List.map kE ks)).length + (1 : Nat))) then bif decide ((↑(atK s ks) : Int).toNat = (List.take (↑(atK s ks) : Int).toNat (List.map kE ks)).length) then bif decide ((↑(atK s ks) : Int).toNat = (List.take (↑(atK s ks) : Int).toNat (List.map kE ks)).length) then bif decide ((↑(atK s ks) : Int).toNat = (List.take (↑(atK s ks) : Int).toNat (List.map kE ks)).length) then bif decide ((↑(atK s ks) : Int).toNat = (List.take (↑(atK s ks) : Int).toNat (List.map kE ks)).length) then bif decide (sumU n [] > m) then k (AV.tup [AV.agg [AV.int IntKind.i64 w, AV.int IntKind.i64 m, AV.slv (Sh.agg [Sh.str, (Sh.agg [Sh.int IntKind.i64, Sh.int IntKind.i64]).slice]) (List.take (↑(atK s ks) : Int).toNat (List.map kE ks) ++ mkAV sK [AV.str s, AV.slv (Sh.agg [Sh.int IntKind.i64, Sh.int IntKind.i64]) []] :: List.drop (↑(atK s ks) : Int).toNat (List.map kE ks))], AV.bool false, AV.agg [AV.int IntKind.i64 (0 : Int), AV.int IntKind.i64 (0 : Int)]]) else bif decide ((↑(atK s ks) : Int).toNat = (List.take (↑(atK s ks) : Int).toNat (List.map kE ks)).length) then bif decide ((↑(atK s ks) : Int).toNat = (List.take (↑(atK s ks) : Int).toNat (List.map kE ks)).length) then bif decide ((↑(atK s ks) : Int).toNat = (List.take (↑(atK s ks) : Int).toNat (List.map kE ks)).length) then k (AV.tup [AV.agg [AV.int IntKind.i64 w, AV.int IntKind.i64 m, AV.slv (Sh.agg [Sh.str, (Sh.agg [Sh.int IntKind.i64, Sh.int IntKind.i64]).slice]) (List.take (↑(atK s ks) : Int).toNat (List.map kE ks) ++ mkAV sK [AV.str s, AV.slv (Sh.agg [Sh.int IntKind.i64, Sh.int IntKind.i64]) [AV.agg [AV.int IntKind.i64 now, AV.int IntKind.i64 n]]] :: List.drop (↑(atK s ks) : Int).toNat (List.map kE ks))], AV.bool true, AV.agg [AV.int IntKind.i64 (0 : Int), AV.int IntKind.i64 (0 : Int)]]) else none else none else none else none else none else none else none else none else none else bif inb (↑(atK s ks) : Int) (List.map kE ks).length then bif decide ((↑(atK s ks) : Int).toNat < (List.map kE ks).length) then bif decide ((↑(kU ((List.map kE ks).getD (↑(atK s ks) : Int).toNat AV.unk)).length : Int) > (0 : Int)) then bif decide ((↑(atK s ks) : Int).toNat < (List.map kE ks).length) then bif inb (IntKind.i64.wrap ((↑(kU ((List.map kE ks).getD (↑(atK s ks) : Int).toNat AV.unk)).length : Int) - (1 : Int))) (kU ((List.map kE ks).getD (↑(atK s ks) : Int).toNat AV.unk)).length then bif decide ((((kU ((List.map kE ks).getD (↑(atK s ks) : Int).toNat AV.unk)).getD (IntKind.i64.wrap ((↑(kU ((List.map kE ks).getD (↑(atK s ks) : Int).toNat AV.unk)).length : Int) - (1 : Int))).toNat AV.unk).cells.headD AV.unk).toInt > now) then k (AV.tup [AV.agg [AV.int IntKind.i64 (0 : Int), AV.int IntKind.i64 (0 : Int), AV.slv (Sh.agg [Sh.str, (Sh.agg [Sh.int IntKind.i64, Sh.int IntKind.i64]).slice]) []], AV.bool false, AV.agg [AV.int IntKind.i64 (19 : Int), AV.int IntKind.i64 (↑(atK s ks) : Int)]]) else bif decide ((↑(atK s ks) : Int).toNat < (List.map kE ks).length) then none else none else none else none else bif decide ((↑(atK s ks) : Int).toNat < (List.map kE ks).length) then none else none else none else none else none else bif decide (ks.length ≤ (1000000 : Nat)) && ks.all okL then bif !isK s ks then bif ((fun x => PID + x) (0 : Nat)).beq PID && (((fun x => PID + x) ((fun x => x + (1 : Nat)) (0 : Nat))).beq (PID + (1 : Nat)) && decide ((0 : Int) ≤ (↑(atK s ks) : Int) ∧ (↑(atK s ks) : Int) ≤ (↑(List.map kE ks).length : Int) ∧ (List.map kE ks).length ≤ (100000 : Nat))) then bif inb (↑(atK s ks) : Int) ((List.take (↑(atK s ks) : Int).toNat (List.map kE ks)).length + ((List.drop (↑(atK s ks) : Int).toNat (List.map kE ks)).length + (1 : Nat))) then bif decide ((↑(atK s ks) : Int).toNat = (List.take (↑(atK s ks) : Int).toNat (List.map kE ks)).length) then bif decide ((↑(atK s ks) : Int).toNat = (List.take (↑(atK s ks) : Int).toNat (List.map kE ks)).length) then bif decide ((↑(atK s ks) : Int).toNat = (List.take (↑(atK s ks) : Int).toNat (List.map kE ks)).length) then bif decide ((↑(atK s ks) : Int).toNat = (List.take (↑(atK s ks) : Int).toNat (List.map kE ks)).length) then bif decide (sumU n [] > m) then k (AV.tup [AV.agg [AV.int IntKind.i64 w, AV.int IntKind.i64 m, AV.slv (Sh.agg [Sh.str, (Sh.agg [Sh.int IntKind.i64, Sh.int IntKind.i64]).slice]) (List.take (↑(atK s ks) : Int).toNat (List.map kE ks) ++ mkAV sK [AV.str s, AV.slv (Sh.agg [Sh.int IntKind.i64, Sh.int IntKind.i64]) []] :: List.drop (↑(atK s ks) : Int).toNat (List.map kE ks))], AV.bool false, AV.agg [AV.int IntKind.i64 (0 : Int), AV.int IntKind.i64 (0 : Int)]]) else bif decide ((↑(atK s ks) : Int).toNat = (List.take (↑(atK s ks) : Int).toNat (List.map kE ks)).length) then bif decide ((↑(atK s ks) : Int).toNat = (List.take (↑(atK s ks) : Int).toNat (List.map kE ks)).length) then bif decide ((↑(atK s ks) : Int).toNat = (List.take (↑(atK s ks) : Int).toNat (List.map kE ks)).length) then k (AV.tup [AV.agg [AV.int IntKind.i64 w, AV.int IntKind.i64 m, AV.slv (Sh.agg [Sh.str, (Sh.agg [Sh.int IntKind.i64, Sh.int IntKind.i64]).slice]) (List.take (↑(atK s ks) : Int).toNat (List.map kE ks) ++ mkAV sK [AV.str s, AV.slv (Sh.agg [Sh.int IntKind.i64, Sh.int IntKind.i64]) [AV.agg [AV.int IntKind.i64 now, AV.int IntKind.i64 n]]] :: List.drop (↑(atK s ks) : Int).toNat (List.map kE ks))], AV.bool true, AV.agg [AV.int IntKind.i64 (0 : Int), AV.int IntKind.i64 (0 : Int)]]) else none else none else none else none else none else none else none else none else none else bif inb (↑(atK s ks) : Int) (List.map kE ks).length then bif decide ((↑(atK s ks) : Int).toNat < (List.map kE ks).length) then bif decide ((↑(kU ((List.map kE ks).getD (↑(atK s ks) : Int).toNat AV.unk)).length : Int) > (0 : Int)) then bif decide ((↑(atK s ks) : Int).toNat < (List.map kE ks).length) then bif inb (IntKind.i64.wrap ((↑(kU ((List.map kE ks).getD (↑(atK s ks) : Int).toNat AV.unk)).length : Int) - (1 : Int))) (kU ((List.map kE ks).getD (↑(atK s ks) : Int).toNat AV.unk)).length then bif decide ((((kU ((List.map kE ks).getD (↑(atK s ks) : Int).toNat AV.unk)).getD (IntKind.i64.wrap ((↑(kU ((List.map kE ks).getD (↑(atK s ks) : Int).toNat AV.unk)).length : Int) - (1 : Int))).toNat AV.unk).cells.headD AV.unk).toInt > now) then k (AV.tup [AV.agg [AV.int IntKind.i64 (0 : Int), AV.int IntKind.i64 (0 : Int), AV.slv (Sh.agg [Sh.str, (Sh.agg [Sh.int IntKind.i64, Sh.int IntKind.i64]).slice]) []], AV.bool false, AV.agg [AV.int IntKind.i64 (19 : Int), AV.int IntKind.i64 (↑(atK s ks) : Int)]]) else bif decide ((↑(atK s ks) : Int).toNat < (List.map kE ks).length) then none else none else none else none else bif decide ((↑(atK s ks) : Int).toNat < (List.map kE ks).length) then none else none else none else none else none else none) (by kernel_rfl) ?_
  have hX : decide ((atK s ks) = (List.take (atK s ks) (List.map kE ks)).length) = true := decide_eq_true (by rw [List.length_take, List.length_map]; omega)
  have hinb : inb ((atK s ks : Nat) : Int) ((List.take (atK s ks) (List.map kE ks)).length + ((List.drop (atK s ks) (List.map kE ks)).length + 1)) = true := inb_true (by omega) (by rw [List.length_take, List.length_drop, List.length_map]; omega)
  have hgd : decide ((0 : Int) ≤ ((atK s ks : Nat) : Int) ∧ ((atK s ks : Nat) : Int) ≤ ((List.map kE ks).length : Int) ∧ (List.map kE ks).length ≤ 100000) = true := decide_eq_true ⟨by omega, by rw [List.length_map]; omega, by rw [List.length_map]; omega⟩
  have hg : (decide (ks.length ≤ 1000000) && ks.all okL) = true := and_t (decide_eq_true (by omega)) hok
  rw [hi, hv, hg, hgd, Int.toNat_natCast, hX, hinb, show decide (ks.length ≤ 1000000) = true from decide_eq_true (by omega)]
  unfold allowB insKs useV
  generalize atK s ks = i
  show (bif (ks.length : Int) == 300 then _ else bif decide (n > m) then _ else _) = _
  cases (ks.length : Int) == 300
  · cases decide (n > m) <;> rfl
  · rfl
theorem run7c (w m : Int) (ks : List AV) (s : List UInt8) (n now : Int) (ρ : Type) (k : AV → Option ρ) (hv : ((valF w m ks s n now).1 != 0) = true) :
    evF Try.prog G7b [(17, l7b)] Try.f7 ρ [.agg [.int .i64 w, .int .i64 m, .slv sK ks], .str s, .int .i64 n, .int .i64 now] k = k (.tup [zeroR, .bool false, fault (valF w m ks s n now)]) := by
  refine Eq.trans (b := bif (valF w m ks s n now).fst != (0 : Int) then k (AV.tup [AV.agg [AV.int IntKind.i64 (0 : Int), AV.int IntKind.i64 (0 : Int), AV.slv (Sh.agg [Sh.str, (Sh.agg [Sh.int IntKind.i64, Sh.int IntKind.i64]).slice]) []], AV.bool false, AV.agg [AV.int IntKind.i64 (valF w m ks s n now).fst, AV.int IntKind.i64 (valF w m ks s n now).snd]]) else bif decide (ks.length ≤ (1000000 : Nat)) then bif !isK s ks then bif (↑ks.length : Int) == (300 : Int) then k (AV.tup [AV.agg [AV.int IntKind.i64 (0 : Int), AV.int IntKind.i64 (0 : Int), AV.slv (Sh.agg [Sh.str, (Sh.agg [Sh.int IntKind.i64, Sh.int IntKind.i64]).slice]) []], AV.bool false, AV.agg [AV.int IntKind.i64 (2 : Int), AV.int IntKind.i64 (-1 : Int)]]) else bif decide (ks.length ≤ (1000000 : Nat)) && ks.all okL then bif !isK s ks then bif ((fun x => PID + x) (0 : Nat)).beq PID && (((fun x => PID + x) ((fun x => x + (1 : Nat)) (0 : Nat))).beq (PID + (1 : Nat)) && decide ((0 : Int) ≤ (↑(atK s ks) : Int) ∧ (↑(atK s ks) : Int) ≤ (↑(List.map kE ks).length : Int) ∧ (List.map kE ks).length ≤ (100000 : Nat))) then bif inb (↑(atK s ks) : Int) ((List.take (↑(atK s ks) : Int).toNat (List.map kE ks)).length + ((List.drop (↑(atK s ks) : Int).toNat (List.map kE ks)).length + (1 : Nat))) then bif decide ((↑(atK s ks) : Int).toNat = (List.take (↑(atK s ks) : Int).toNat (List.map kE ks)).length) then bif decide ((↑(atK s ks) : Int).toNat = (List.take (↑(atK s ks) : Int).toNat (List.map kE ks)).length) then bif decide ((↑(atK s ks) : Int).toNat = (List.take (↑(atK s ks) : Int).toNat (List.map kE ks)).length) then bif decide ((↑(atK s ks) : Int).toNat = (List.take (↑(atK s ks) : Int).toNat (List.map kE ks)).length) then bif decide (sumU n [] > m) then k (AV.tup [AV.agg [AV.int IntKind.i64 w, AV.int IntKind.i64 m, AV.slv (Sh.agg [Sh.str, (Sh.agg [Sh.int IntKind.i64, Sh.int IntKind.i64]).slice]) (List.take (↑(atK s ks) : Int).toNat (List.map kE ks) ++ mkAV sK [AV.str s, AV.slv (Sh.agg [Sh.int IntKind.i64, Sh.int IntKind.i64]) []] :: List.drop (↑(atK s ks) : Int).toNat (List.map kE ks))], AV.bool false, AV.agg [AV.int IntKind.i64 (0 : Int), AV.int IntKind.i64 (0 : Int)]]) else bif decide ((↑(atK s ks) : Int).toNat = (List.take (↑(atK s ks) : Int).toNat (List.map kE ks)).length) then bif decide ((↑(atK s ks) : Int).toNat = (List.take (↑(atK s ks) : Int).toNat (List.map kE ks)).length) then bif decide ((↑(atK s ks) : Int).toNat = (List.take (↑(atK s ks) : Int).toNat (List.map kE ks)).length) then k (AV.tup [AV.agg [AV.int IntKind.i64 w, AV.int IntKind.i64 m, AV.slv (Sh.agg [Sh.str, (Sh.agg [Sh.int IntKind.i64, Sh.int IntKind.i64]).slice]) (List.take (↑(atK s ks) : Int).toNat (List.map kE ks) ++ mkAV sK [AV.str s, AV.slv (Sh.agg [Sh.int IntKind.i64, Sh.int IntKind.i64]) [AV.agg [AV.int IntKind.i64 now, AV.int IntKind.i64 n]]] :: List.drop (↑(atK s ks) : Int).toNat (List.map kE ks))], AV.bool true, AV.agg [AV.int IntKind.i64 (0 : Int), AV.int IntKind.i64 (0 : Int)]]) else none else none else none else none else none else none else none else none else none else bif inb (↑(atK s ks) : Int) (List.map kE ks).length then bif decide ((↑(atK s ks) : Int).toNat < (List.map kE ks).length) then bif decide ((↑(kU ((List.map kE ks).getD (↑(atK s ks) : Int).toNat AV.unk)).length : Int) > (0 : Int)) then bif decide ((↑(atK s ks) : Int).toNat < (List.map kE ks).length) then bif inb (IntKind.i64.wrap ((↑(kU ((List.map kE ks).getD (↑(atK s ks) : Int).toNat AV.unk)).length : Int) - (1 : Int))) (kU ((List.map kE ks).getD (↑(atK s ks) : Int).toNat AV.unk)).length then bif decide ((((kU ((List.map kE ks).getD (↑(atK s ks) : Int).toNat AV.unk)).getD (IntKind.i64.wrap ((↑(kU ((List.map kE ks).getD (↑(atK s ks) : Int).toNat AV.unk)).length : Int) - (1 : Int))).toNat AV.unk).cells.headD AV.unk).toInt > now) then k (AV.tup [AV.agg [AV.int IntKind.i64 (0 : Int), AV.int IntKind.i64 (0 : Int), AV.slv (Sh.agg [Sh.str, (Sh.agg [Sh.int IntKind.i64, Sh.int IntKind.i64]).slice]) []], AV.bool false, AV.agg [AV.int IntKind.i64 (19 : Int), AV.int IntKind.i64 (↑(atK s ks) : Int)]]) else bif decide ((↑(atK s ks) : Int).toNat < (List.map kE ks).length) then none else none else none else none else bif decide ((↑(atK s ks) : Int).toNat < (List.map kE ks).length) then none else none else none else none else none else bif decide (ks.length ≤ (1000000 : Nat)) && ks.all okL then bif !isK s ks then bif ((fun x => PID + x) (0 : Nat)).beq PID && (((fun x => PID + x) ((fun x => x + (1 : Nat)) (0 : Nat))).beq (PID + (1 : Nat)) && decide ((0 : Int) ≤ (↑(atK s ks) : Int) ∧ (↑(atK s ks) : Int) ≤ (↑(List.map kE ks).length : Int) ∧ (List.map kE ks).length ≤ (100000 : Nat))) then bif inb (↑(atK s ks) : Int) ((List.take (↑(atK s ks) : Int).toNat (List.map kE ks)).length + ((List.drop (↑(atK s ks) : Int).toNat (List.map kE ks)).length + (1 : Nat))) then bif decide ((↑(atK s ks) : Int).toNat = (List.take (↑(atK s ks) : Int).toNat (List.map kE ks)).length) then bif decide ((↑(atK s ks) : Int).toNat = (List.take (↑(atK s ks) : Int).toNat (List.map kE ks)).length) then bif decide ((↑(atK s ks) : Int).toNat = (List.take (↑(atK s ks) : Int).toNat (List.map kE ks)).length) then bif decide ((↑(atK s ks) : Int).toNat = (List.take (↑(atK s ks) : Int).toNat (List.map kE ks)).length) then bif decide (sumU n [] > m) then k (AV.tup [AV.agg [AV.int IntKind.i64 w, AV.int IntKind.i64 m, AV.slv (Sh.agg [Sh.str, (Sh.agg [Sh.int IntKind.i64, Sh.int IntKind.i64]).slice]) (List.take (↑(atK s ks) : Int).toNat (List.map kE ks) ++ mkAV sK [AV.str s, AV.slv (Sh.agg [Sh.int IntKind.i64, Sh.int IntKind.i64]) []] :: List.drop (↑(atK s ks) : Int).toNat (List.map kE ks))], AV.bool false, AV.agg [AV.int IntKind.i64 (0 : Int), AV.int IntKind.i64 (0 : Int)]]) else bif decide ((↑(atK s ks) : Int).toNat = (List.take (↑(atK s ks) : Int).toNat (List.map kE ks)).length) then bif decide ((↑(atK s ks) : Int).toNat = (List.take (↑(atK s ks) : Int).toNat (List.map kE ks)).length) then bif decide ((↑(atK s ks) : Int).toNat = (List.take (↑(atK s ks) : Int).toNat (List.map kE ks)).length) then k (AV.tup [AV.agg [AV.int IntKind.i64 w, AV.int IntKind.i64 m, AV.slv (Sh.agg [Sh.str, (Sh.agg [Sh.int IntKind.i64, Sh.int IntKind.i64]).slice]) (List.take (↑(atK s ks) : Int).toNat (List.map kE ks) ++ mkAV sK [AV.str s, AV.slv (Sh.agg [Sh.int IntKind.i64, Sh.int IntKind.i64]) [AV.agg [AV.int IntKind.i64 now, AV.int IntKind.i64 n]]] :: List.drop (↑(atK s ks) : Int).toNat (List.map kE ks))], AV.bool true, AV.agg [AV.int IntKind.i64 (0 : Int), AV.int IntKind.i64 (0 : Int)]]) else none else none else none else none else none else none else none else none else none else bif inb (↑(atK s ks) : Int) (List.map kE ks).length then bif decide ((↑(atK s ks) : Int).toNat < (List.map kE ks).length) then bif decide ((↑(kU ((List.map kE ks).getD (↑(atK s ks) : Int).toNat AV.unk)).length : Int) > (0 : Int)) then bif decide ((↑(atK s ks) : Int).toNat < (List.map kE ks).length) then bif inb (IntKind.i64.wrap ((↑(kU ((List.map kE ks).getD (↑(atK s ks) : Int).toNat AV.unk)).length : Int) - (1 : Int))) (kU ((List.map kE ks).getD (↑(atK s ks) : Int).toNat AV.unk)).length then bif decide ((((kU ((List.map kE ks).getD (↑(atK s ks) : Int).toNat AV.unk)).getD (IntKind.i64.wrap ((↑(kU ((List.map kE ks).getD (↑(atK s ks) : Int).toNat AV.unk)).length : Int) - (1 : Int))).toNat AV.unk).cells.headD AV.unk).toInt > now) then k (AV.tup [AV.agg [AV.int IntKind.i64 (0 : Int), AV.int IntKind.i64 (0 : Int), AV.slv (Sh.agg [Sh.str, (Sh.agg [Sh.int IntKind.i64, Sh.int IntKind.i64]).slice]) []], AV.bool false, AV.agg [AV.int IntKind.i64 (19 : Int), AV.int IntKind.i64 (↑(atK s ks) : Int)]]) else bif decide ((↑(atK s ks) : Int).toNat < (List.map kE ks).length) then none else none else none else none else bif decide ((↑(atK s ks) : Int).toNat < (List.map kE ks).length) then none else none else none else none else none else none) (by kernel_rfl) ?_
  rw [hv]
  rfl
theorem keyC_zero {nm : List UInt8} {us : List AV} {m : Int} (h : (keyC nm us m != 0) = false) : nmB nm = true ∧ us.length ≤ 300 ∧ ∀ i, i < us.length → (useC2 us us m i != 0) = false := by
  unfold keyC at h
  cases h1 : nmB nm
  · rw [h1] at h; cases h
  · rw [h1] at h
    by_cases h2 : (us.length : Int) > 300
    · rw [decide_eq_true h2] at h; cases h
    · rw [decide_eq_false h2] at h
      cases h3 : badU us m with
      | some q =>
        rw [h3] at h
        obtain ⟨_, _, hq, _⟩ := findN_some h3
        have h : (useC2 us us m q != 0) = false := h
        have hq : (useC2 us us m q != 0) = true := hq
        rw [h] at hq
        cases hq
      | none => exact ⟨rfl, by omega, fun i hi => findN_none h3 i (Nat.zero_le _) hi⟩
theorem ratF_zero {w m : Int} {ks : List AV} (h : ((ratF w m ks).1 != 0) = false) : inR w 1 1000000 = true ∧ inR m 0 1000000 = true ∧ ks.length ≤ 300 ∧ ∀ i, i < ks.length → (codeK2 ks ks m i != 0) = false := by
  unfold ratF at h
  cases h1 : inR w 1 1000000
  · rw [h1] at h; cases h
  · cases h2 : inR m 0 1000000
    · rw [h1, h2] at h; cases h
    · rw [h1, h2] at h
      by_cases h3 : (ks.length : Int) > 300
      · rw [decide_eq_true h3] at h; cases h
      · rw [decide_eq_false h3] at h
        cases h4 : badK ks m with
        | some q =>
          rw [h4] at h
          obtain ⟨_, _, hq, _⟩ := findN_some h4
          have h : (codeK2 ks ks m q != 0) = false := h
          have hq : (codeK2 ks ks m q != 0) = true := hq
          rw [h] at hq
          cases hq
        | none => exact ⟨rfl, rfl, by omega, fun i hi => findN_none h4 i (Nat.zero_le _) hi⟩
theorem codeK_zero {ks : List AV} {m : Int} {i : Nat} (h : (codeK2 ks ks m i != 0) = false) : (keyC (kN (ks.getD i .unk)) (kU (ks.getD i .unk)) m != 0) = false := by
  unfold codeK2 at h
  cases h1 : keyC (kN (ks.getD i .unk)) (kU (ks.getD i .unk)) m != 0
  · rfl
  · rw [h1, cond_true, h1] at h; cases h
theorem valF_zero {w m : Int} {ks : List AV} {s : List UInt8} {n now : Int} (h : ((valF w m ks s n now).1 != 0) = false) : ((ratF w m ks).1 != 0) = false ∧ nmB s = true ∧ inR n 1 1000000 = true ∧ tmB now = true := by
  unfold valF at h
  cases h1 : (ratF w m ks).1 != 0
  · rw [h1] at h
    cases h2 : nmB s
    · rw [h2] at h; cases h
    · cases h3 : inR n 1 1000000
      · rw [h2, h3] at h; cases h
      · cases h4 : tmB now
        · rw [h2, h3, h4] at h; cases h
        · exact ⟨rfl, rfl, rfl, rfl⟩
  · rw [h1, cond_true, h1] at h; cases h
def canK (ks : List AV) : Bool := ks.all fun e => (kU e).all (hasSh sU)
def allowV (w m : Int) (ks : List AV) (s : List UInt8) (n now : Int) : AV :=
  bif (valF w m ks s n now).1 != 0 then .tup [zeroR, .bool false, fault (valF w m ks s n now)] else bif isK s ks then allowA w m ks (atK s ks) n now else allowB w m ks s (atK s ks) n now
def F7 : List AV → Tr AV
  | [.agg [.int .i64 w, .int .i64 m, .slv (.agg [.str, .slice (.agg [.int .i64, .int .i64])]) ks], .str s, .int .i64 n, .int .i64 now] => .gd (canK ks) (.leaf (allowV w m ks s n now))
  | _ => .no
theorem ok7 : SumOK Try.prog 7 (ofT F7) ∧ SNat (ofT F7) := by
  refine ⟨SumOK.point fun avs => ?_, snat_ofT _⟩
  have hb : ∃ F', SumOK Try.prog 7 F' ∧ F' = evF Try.prog G7b [(17, l7b)] Try.f7 := ⟨_, sum1 (b := b7) (l := l7b) g7b Try.func7 (by kernel_rfl) (by kernel_rfl) loop7b fun _ _ _ _ h => h, rfl⟩
  have ha : ∀ f, ∃ F', SumOK Try.prog 7 F' ∧ F' = evF Try.prog (G7a f) [(17, l7a)] Try.f7 := fun f => ⟨_, sum1 (b := b7) (l := l7a) (g7a f) Try.func7 (by kernel_rfl) (by kernel_rfl) (loop7a f) fun _ _ _ _ h => h, rfl⟩
  obtain ⟨Fb, hFb, eb⟩ := hb
  by_cases hm : ∃ w m ks s n now, avs = [.agg [.int .i64 w, .int .i64 m, .slv (.agg [.str, .slice (.agg [.int .i64, .int .i64])]) ks], .str s, .int .i64 n, .int .i64 now] ∧ canK ks = true
  · obtain ⟨w, m, ks, s, n, now, rfl, hcan⟩ := hm
    have hF : ∀ (ρ : Type) (k : AV → Option ρ) (r : ρ), ofT F7 ρ [.agg [.int .i64 w, .int .i64 m, .slv (.agg [.str, .slice (.agg [.int .i64, .int .i64])]) ks], .str s, .int .i64 n, .int .i64 now] k = some r → k (allowV w m ks s n now) = some r := fun ρ k r h => by
      have h : (Tr.gd (canK ks) (.leaf (allowV w m ks s n now))).run k = some r := h
      exact (gd_some h).2
    cases hv : (valF w m ks s n now).1 != 0
    · obtain ⟨v1, v2, v3, v4⟩ := valF_zero hv
      obtain ⟨r1, r2, r3, r4⟩ := ratF_zero v1
      have hus : ∀ i, i < ks.length → (kU (ks.getD i .unk)).length ≤ 300 := fun i hi => (keyC_zero (codeK_zero (r4 i hi))).2.1
      have hok : ks.all okL = true := List.all_eq_true.2 fun e he => by
        obtain ⟨i, hi, rfl⟩ := List.getElem_of_mem he
        have := hus i hi
        rw [getD_eq hi] at this
        exact decide_eq_true (by omega)
      cases hi : isK s ks
      · refine ⟨Fb, hFb, fun ρ k r h => ?_⟩
        have hle : atK s ks ≤ ks.length := (bs_le (ltN s ks) ks.length 0 ks.length (Nat.zero_le _)).1
        rw [eb, run7b w m ks s n now ρ k hv hi r3 hle hok, ← hF ρ k r h]
        unfold allowV
        rw [hv, hi]
        rfl
      · obtain ⟨Fa, hFa, ea⟩ := ha (atK s ks)
        refine ⟨Fa, hFa, fun ρ k r h => ?_⟩
        have hlt : atK s ks < ks.length := by
          have hi' := hi
          unfold isK at hi'
          simp only [Bool.and_eq_true] at hi'
          exact of_decide_eq_true hi'.1
        have hsh : (kU (ks.getD (atK s ks) .unk)).all (hasSh sU) = true := List.all_eq_true.1 hcan (ks.getD (atK s ks) .unk) (by rw [getD_eq hlt]; exact List.getElem_mem hlt)
        rw [ea, run7a (atK s ks) w m ks s n now ρ k rfl hv hi r3 hlt hok (hus _ hlt) hsh, ← hF ρ k r h]
        unfold allowV
        rw [hv, hi]
        rfl
    · refine ⟨Fb, hFb, fun ρ k r h => ?_⟩
      rw [eb, run7c w m ks s n now ρ k hv, ← hF ρ k r h]
      unfold allowV
      rw [hv]
      rfl
  · refine ⟨Fb, hFb, fun ρ k r h => ?_⟩
    have h : (F7 avs).run k = some r := h
    unfold F7 at h
    split at h
    · exact absurd ⟨_, _, _, _, _, _, rfl, (gd_some h).1⟩ hm
    · cases h
end Go.Proofs.Ythacpbjcgmbplaa

/-
  The document's UsesOf; rated.
-/
namespace Go.Proofs.Ythacpbjcgmbplaa
open Go.Ev

noncomputable def G12 : Env := { pure := [(7, ofT F7)] }
theorem g12 : GOK Try.prog G12 := GOK.also g0 ok7
def F12 : List AV → Tr AV
  | [] => .leaf (.bool true)
  | _ => .no
theorem ok12 : SumOK Try.prog 12 (ofT F12) ∧ SNat (ofT F12) := by
  refine fn0 g12 Try.func12 (by kernel_rfl) fun ρ avs k r h => ?_
  unfold F12 at h
  split at h
  · have hk := h
    rw [← hk]
    exact (show evF Try.prog G12 [] Try.f12 ρ [] k = k (.bool true) by kernel_rfl)
  · cases h
def isN (s : List UInt8) (ks : List AV) (i : Nat) : Bool := kN (ks.getD i .unk) == s
def fKey (s : List UInt8) (ks : List AV) : Option Nat := findN (isN s ks) ks.length 0
noncomputable def b27 : Code := ((Try.f27.body.map loopsOf).getD []).headD .skip
def L27 : List AV → List (Option Row) → Tr LOut
  | [.str s, .ptr 0 0, .slz (.agg [.int .i64, .int .i64]), .int .i64 0, .int .i64 i], [some (.box false [.int .i64 w, .int .i64 m, .slv (.agg [.str, .slice (.agg [.int .i64, .int .i64])]) ks])] =>
    .gd (cnt ks.length i ks.length) (sT (isN s ks) ks.length
      (fun q => .leaf (.ret, [.str s, .ptr 0 0, .slv sU (kU (ks.getD q .unk)), .int .i64 (q : Nat), .int .i64 (q : Nat)], [some (.box false [.int .i64 w, .int .i64 m, .slv sK ks])]))
      (.leaf (.exit 0, [.str s, .ptr 0 0, .slz sU, .int .i64 0, .int .i64 ks.length], [some (.box false [.int .i64 w, .int .i64 m, .slv sK ks])])) i.toNat)
  | _, _ => .no
def l27 : Ev.Loop := ⟨{ len := 29, slots := [1, 2, 4, 5, 6], rows := [0] }, ofL L27⟩
def μ27 (vs : List AV) (rs : List (Option Row)) : Nat := match vs, rs with
  | [_, _, _, _, .int _ i], [some (.box _ [_, _, .slv _ ks])] => ((ks.length : Int) - i).toNat
  | _, _ => 0
theorem loop27 : LoopOK Try.prog G0 [(2, l27)] b27 l27 := by
  refine loopT g0.natOK rfl (KOK.nil (by kernel_rfl)) μ27 (fun ρ vs rs k r h => ?_)
  unfold L27 at h
  split at h
  · rename_i s i w m ks
    obtain ⟨hc, hk⟩ := gd_some h
    obtain ⟨_, hs, j, rfl, hj⟩ := cnt_spec hc
    rw [Int.toNat_natCast] at hk
    refine Eq.trans (b := bif decide ((↑j : Int) < (↑ks.length : Int)) then bif inb (↑j : Int) ks.length then bif (kN (ks.getD j AV.unk)) == s then bif inb (↑j : Int) ks.length then k Ex.ret [AV.str s, AV.ptr (0 : Nat) (0 : Nat), AV.slv (Sh.agg [Sh.int IntKind.i64, Sh.int IntKind.i64]) (kU (ks.getD j AV.unk)), AV.int IntKind.i64 (↑j : Int), AV.int IntKind.i64 (↑j : Int)] [some (Row.box false [AV.int IntKind.i64 w, AV.int IntKind.i64 m, AV.slv (Sh.agg [Sh.str, (Sh.agg [Sh.int IntKind.i64, Sh.int IntKind.i64]).slice]) ks])] else none else bif decide (((↑ks.length : Int) - IntKind.i64.wrap ((↑j : Int) + (1 : Int))).toNat < ((↑ks.length : Int) - (↑j : Int)).toNat) then bif cnt (↑ks.length : Int) (IntKind.i64.wrap ((↑j : Int) + (1 : Int))) ks.length then bif (findN (isN s ks) ks.length (IntKind.i64.wrap ((↑j : Int) + (1 : Int))).toNat).isSome then k Ex.ret [AV.str s, AV.ptr (0 : Nat) (0 : Nat), AV.slv (Sh.agg [Sh.int IntKind.i64, Sh.int IntKind.i64]) (kU (ks.getD ((findN (isN s ks) ks.length (IntKind.i64.wrap ((↑j : Int) + (1 : Int))).toNat).getD (0 : Nat)) AV.unk)), AV.int IntKind.i64 (↑((findN (isN s ks) ks.length (IntKind.i64.wrap ((↑j : Int) + (1 : Int))).toNat).getD (0 : Nat)) : Int), AV.int IntKind.i64 (↑((findN (isN s ks) ks.length (IntKind.i64.wrap ((↑j : Int) + (1 : Int))).toNat).getD (0 : Nat)) : Int)] [some (Row.box false [AV.int IntKind.i64 w, AV.int IntKind.i64 m, AV.slv (Sh.agg [Sh.str, (Sh.agg [Sh.int IntKind.i64, Sh.int IntKind.i64]).slice]) ks])] else k (Ex.exit (0 : Nat)) [AV.str s, AV.ptr (0 : Nat) (0 : Nat), AV.slz (Sh.agg [Sh.int IntKind.i64, Sh.int IntKind.i64]), AV.int IntKind.i64 (0 : Int), AV.int IntKind.i64 (↑ks.length : Int)] [some (Row.box false [AV.int IntKind.i64 w, AV.int IntKind.i64 m, AV.slv (Sh.agg [Sh.str, (Sh.agg [Sh.int IntKind.i64, Sh.int IntKind.i64]).slice]) ks])] else none else none else none else k (Ex.exit (0 : Nat)) [AV.str s, AV.ptr (0 : Nat) (0 : Nat), AV.slz (Sh.agg [Sh.int IntKind.i64, Sh.int IntKind.i64]), AV.int IntKind.i64 (0 : Int), AV.int IntKind.i64 (↑j : Int)] [some (Row.box false [AV.int IntKind.i64 w, AV.int IntKind.i64 m, AV.slv (Sh.agg [Sh.str, (Sh.agg [Sh.int IntKind.i64, Sh.int IntKind.i64]).slice]) ks])]) (by kernel_rfl) ?_
    rw [← hk]
    by_cases hlt : j < ks.length
    · obtain ⟨e1, e2, e3, e4, e5⟩ := cnt_facts hlt hs
      have e7 : isN s ks j = (kN (ks.getD j .unk) == s) := rfl
      rw [sT_step _ _ _ _ _ hlt, e7]
      simp only [e1, e2, e3, e4, e5, cond_true, Int.toNat_natCast]
      cases kN (ks.getD j .unk) == s <;> rfl
    · obtain rfl : j = ks.length := by omega
      rw [decide_eq_false (by omega), sT_end]
      rfl
  · cases h
def usesO (s : List UInt8) (ks : List AV) : List AV := bif (fKey s ks).isSome then kU (ks.getD ((fKey s ks).getD 0) .unk) else []
def F27 : List AV → Tr AV
  | [.agg [.int .i64 _, .int .i64 _, .slv (.agg [.str, .slice (.agg [.int .i64, .int .i64])]) ks], .str s] => .gd (small ks.length) (.br (fKey s ks).isSome (.leaf (.tup [.slv sU (kU (ks.getD ((fKey s ks).getD 0) .unk)), .int .i64 (((fKey s ks).getD 0 : Nat) : Int)])) (.leaf (.tup [.slv sU [], .int .i64 (-1)])))
  | _ => .no
theorem ok27 : SumOK Try.prog 27 (ofT F27) ∧ SNat (ofT F27) := by
  refine fn1 (K := [(2, l27)]) (b := b27) (l := l27) g0 Try.func27 (by kernel_rfl) (by kernel_rfl) loop27 fun ρ avs k r h => ?_
  unfold F27 at h
  split at h
  · rename_i w m ks s
    obtain ⟨hc, hk⟩ := gd_some h
    refine Eq.trans (b := bif cnt (↑ks.length : Int) (0 : Int) ks.length then bif (findN (isN s ks) ks.length (0 : Nat)).isSome then k (AV.tup [AV.slv (Sh.agg [Sh.int IntKind.i64, Sh.int IntKind.i64]) (kU (ks.getD ((findN (isN s ks) ks.length (0 : Nat)).getD (0 : Nat)) AV.unk)), AV.int IntKind.i64 (↑((findN (isN s ks) ks.length (0 : Nat)).getD (0 : Nat)) : Int)]) else k (AV.tup [AV.slv (Sh.agg [Sh.int IntKind.i64, Sh.int IntKind.i64]) [], AV.int IntKind.i64 (-1 : Int)]) else none) (by kernel_rfl) ?_
    rw [← hk, cnt_zero hc]
    show (bif (findN (isN s ks) ks.length 0).isSome then _ else _) = (bif (fKey s ks).isSome then _ else _)
    unfold fKey
    cases findN (isN s ks) ks.length 0 <;> rfl
  · cases h
end Go.Proofs.Ythacpbjcgmbplaa

/-
  The document's WithUses.
-/
namespace Go.Proofs.Ythacpbjcgmbplaa
open Go.Ev

noncomputable def b28 : Code := ((Try.f28.body.map loopsOf).getD []).headD .skip
def wA (s : List UInt8) (d : Bool) (e : AV) : Bool := !d && !(Op.bytesLess (kN e) s)
/-- What WithUses has done behind a part of the keys: whether the key is there, and the list. -/
def wI (s : List UInt8) (x : AV) : Bool → List AV → Bool × List AV
  | d, [] => (d, [])
  | d, e :: r => ((wI s x (d || wA s d e) r).1, (bif wA s d e then [x] else []) ++ ((bif kN e == s then [] else [kE e]) ++ (wI s x (d || wA s d e) r).2))
theorem wI_cons (s : List UInt8) (x : AV) (d : Bool) (e : AV) (r : List AV) : wI s x d (e :: r) = ((wI s x (d || wA s d e) r).1, (bif wA s d e then [x] else []) ++ ((bif kN e == s then [] else [kE e]) ++ (wI s x (d || wA s d e) r).2)) := rfl
def keyV (s : List UInt8) (us : List AV) : AV := .agg [.str s, .slv sU us]
def L28 : List AV → List (Option Row) → Tr LOut
  | [.str s, .slv (.agg [.int .i64, .int .i64]) us, .ptr 0 0, .ptr 1 0, .own 900, .bool d, .int .i64 i], [some (.box false [.int .i64 w, .int .i64 m, .slv (.agg [.str, .slice (.agg [.int .i64, .int .i64])]) ks]), some (.box false [.int .i64 0, .int .i64 0, .slz s0]), some (.arr false (.agg [.str, .slice (.agg [.int .i64, .int .i64])]) 45 out none)] =>
    .gd (decide (0 ≤ i ∧ i ≤ ks.length ∧ ks.length ≤ 1000 ∧ out.length ≤ 2 * i)) (.leaf (.exit 0, [.str s, .slv sU us, .ptr 0 0, .ptr 1 0, .own 900, .bool (wI s (keyV s us) d (ks.drop i.toNat)).1, .int .i64 ks.length], [some (.box false [.int .i64 w, .int .i64 m, .slv sK ks]), some (.box false [.int .i64 0, .int .i64 0, .slz s0]), some (.arr false sK 45 (out ++ (wI s (keyV s us) d (ks.drop i.toNat)).2) none)]))
  | _, _ => .no
def l28 : Ev.Loop := ⟨{ len := 62, slots := [1, 2, 3, 6, 7, 8, 9], rows := [0, 1, 900], homes := [(7, 900, 45)] }, ofL L28⟩
def μ28 (vs : List AV) (rs : List (Option Row)) : Nat := match vs, rs with
  | [_, _, _, _, _, _, .int _ i], [some (.box _ [_, _, .slv _ ks]), _, _] => ((ks.length : Int) - i).toNat
  | _, _ => 0
theorem loop28 : LoopOK Try.prog G0 [(4, l28)] b28 l28 := by
  refine loopT g0.natOK rfl (KOK.nil (by kernel_rfl)) μ28 (fun ρ vs rs k r h => ?_)
  unfold L28 at h
  split at h
  · rename_i s us d i' w m ks s0 out
    obtain ⟨hc, hk⟩ := gd_some h
    obtain ⟨d1, d2, d3, d4⟩ := of_decide_eq_true hc
    obtain ⟨i, rfl⟩ : ∃ i : Nat, i' = i := ⟨i'.toNat, by omega⟩
    rw [Int.toNat_natCast] at hk
    refine Eq.trans (b := bif decide ((↑i : Int) < (↑ks.length : Int)) then bif !d then bif inb (↑i : Int) ks.length then bif !Op.bytesLess (kN (ks.getD i AV.unk)) s then bif roomB (out.length + [AV.agg [AV.str s, AV.slv (Sh.agg [Sh.int IntKind.i64, Sh.int IntKind.i64]) us]].length) (Try.prog.bytesOf (45 : Nat)) then bif inb (↑i : Int) ks.length then bif !(kN (ks.getD i AV.unk)) == s then bif inb (↑i : Int) ks.length then bif roomB ((out ++ [AV.agg [AV.str s, AV.slv (Sh.agg [Sh.int IntKind.i64, Sh.int IntKind.i64]) us]]).length + [AV.agg [AV.str (kN (ks.getD i AV.unk)), AV.slv (Sh.agg [Sh.int IntKind.i64, Sh.int IntKind.i64]) (kU (ks.getD i AV.unk))]].length) (Try.prog.bytesOf (45 : Nat)) then bif decide (((↑ks.length : Int) - IntKind.i64.wrap ((↑i : Int) + (1 : Int))).toNat < ((↑ks.length : Int) - (↑i : Int)).toNat) then bif decide ((0 : Int) ≤ IntKind.i64.wrap ((↑i : Int) + (1 : Int)) ∧ IntKind.i64.wrap ((↑i : Int) + (1 : Int)) ≤ (↑ks.length : Int) ∧ ks.length ≤ (1000 : Nat) ∧ (↑(out ++ [AV.agg [AV.str s, AV.slv (Sh.agg [Sh.int IntKind.i64, Sh.int IntKind.i64]) us]] ++ [AV.agg [AV.str (kN (ks.getD i AV.unk)), AV.slv (Sh.agg [Sh.int IntKind.i64, Sh.int IntKind.i64]) (kU (ks.getD i AV.unk))]]).length : Int) ≤ (2 : Int) * IntKind.i64.wrap ((↑i : Int) + (1 : Int))) then k (Ex.exit (0 : Nat)) [AV.str s, AV.slv (Sh.agg [Sh.int IntKind.i64, Sh.int IntKind.i64]) us, AV.ptr (0 : Nat) (0 : Nat), AV.ptr (1 : Nat) (0 : Nat), AV.own (900 : Nat), AV.bool (wI s (keyV s us) true (List.drop (IntKind.i64.wrap ((↑i : Int) + (1 : Int))).toNat ks)).fst, AV.int IntKind.i64 (↑ks.length : Int)] [some (Row.box false [AV.int IntKind.i64 w, AV.int IntKind.i64 m, AV.slv (Sh.agg [Sh.str, (Sh.agg [Sh.int IntKind.i64, Sh.int IntKind.i64]).slice]) ks]), some (Row.box false [AV.int IntKind.i64 (0 : Int), AV.int IntKind.i64 (0 : Int), AV.slz s0]), some (Row.arr false (Sh.agg [Sh.str, (Sh.agg [Sh.int IntKind.i64, Sh.int IntKind.i64]).slice]) (45 : Nat) (out ++ [AV.agg [AV.str s, AV.slv (Sh.agg [Sh.int IntKind.i64, Sh.int IntKind.i64]) us]] ++ [AV.agg [AV.str (kN (ks.getD i AV.unk)), AV.slv (Sh.agg [Sh.int IntKind.i64, Sh.int IntKind.i64]) (kU (ks.getD i AV.unk))]] ++ (wI s (keyV s us) true (List.drop (IntKind.i64.wrap ((↑i : Int) + (1 : Int))).toNat ks)).snd) none)] else none else none else none else none else bif decide (((↑ks.length : Int) - IntKind.i64.wrap ((↑i : Int) + (1 : Int))).toNat < ((↑ks.length : Int) - (↑i : Int)).toNat) then bif decide ((0 : Int) ≤ IntKind.i64.wrap ((↑i : Int) + (1 : Int)) ∧ IntKind.i64.wrap ((↑i : Int) + (1 : Int)) ≤ (↑ks.length : Int) ∧ ks.length ≤ (1000 : Nat) ∧ (↑(out ++ [AV.agg [AV.str s, AV.slv (Sh.agg [Sh.int IntKind.i64, Sh.int IntKind.i64]) us]]).length : Int) ≤ (2 : Int) * IntKind.i64.wrap ((↑i : Int) + (1 : Int))) then k (Ex.exit (0 : Nat)) [AV.str s, AV.slv (Sh.agg [Sh.int IntKind.i64, Sh.int IntKind.i64]) us, AV.ptr (0 : Nat) (0 : Nat), AV.ptr (1 : Nat) (0 : Nat), AV.own (900 : Nat), AV.bool (wI s (keyV s us) true (List.drop (IntKind.i64.wrap ((↑i : Int) + (1 : Int))).toNat ks)).fst, AV.int IntKind.i64 (↑ks.length : Int)] [some (Row.box false [AV.int IntKind.i64 w, AV.int IntKind.i64 m, AV.slv (Sh.agg [Sh.str, (Sh.agg [Sh.int IntKind.i64, Sh.int IntKind.i64]).slice]) ks]), some (Row.box false [AV.int IntKind.i64 (0 : Int), AV.int IntKind.i64 (0 : Int), AV.slz s0]), some (Row.arr false (Sh.agg [Sh.str, (Sh.agg [Sh.int IntKind.i64, Sh.int IntKind.i64]).slice]) (45 : Nat) (out ++ [AV.agg [AV.str s, AV.slv (Sh.agg [Sh.int IntKind.i64, Sh.int IntKind.i64]) us]] ++ (wI s (keyV s us) true (List.drop (IntKind.i64.wrap ((↑i : Int) + (1 : Int))).toNat ks)).snd) none)] else none else none else none else none else bif inb (↑i : Int) ks.length then bif !(kN (ks.getD i AV.unk)) == s then bif inb (↑i : Int) ks.length then bif roomB (out.length + [AV.agg [AV.str (kN (ks.getD i AV.unk)), AV.slv (Sh.agg [Sh.int IntKind.i64, Sh.int IntKind.i64]) (kU (ks.getD i AV.unk))]].length) (Try.prog.bytesOf (45 : Nat)) then bif decide (((↑ks.length : Int) - IntKind.i64.wrap ((↑i : Int) + (1 : Int))).toNat < ((↑ks.length : Int) - (↑i : Int)).toNat) then bif decide ((0 : Int) ≤ IntKind.i64.wrap ((↑i : Int) + (1 : Int)) ∧ IntKind.i64.wrap ((↑i : Int) + (1 : Int)) ≤ (↑ks.length : Int) ∧ ks.length ≤ (1000 : Nat) ∧ (↑(out ++ [AV.agg [AV.str (kN (ks.getD i AV.unk)), AV.slv (Sh.agg [Sh.int IntKind.i64, Sh.int IntKind.i64]) (kU (ks.getD i AV.unk))]]).length : Int) ≤ (2 : Int) * IntKind.i64.wrap ((↑i : Int) + (1 : Int))) then k (Ex.exit (0 : Nat)) [AV.str s, AV.slv (Sh.agg [Sh.int IntKind.i64, Sh.int IntKind.i64]) us, AV.ptr (0 : Nat) (0 : Nat), AV.ptr (1 : Nat) (0 : Nat), AV.own (900 : Nat), AV.bool (wI s (keyV s us) d (List.drop (IntKind.i64.wrap ((↑i : Int) + (1 : Int))).toNat ks)).fst, AV.int IntKind.i64 (↑ks.length : Int)] [some (Row.box false [AV.int IntKind.i64 w, AV.int IntKind.i64 m, AV.slv (Sh.agg [Sh.str, (Sh.agg [Sh.int IntKind.i64, Sh.int IntKind.i64]).slice]) ks]), some (Row.box false [AV.int IntKind.i64 (0 : Int), AV.int IntKind.i64 (0 : Int), AV.slz s0]), some (Row.arr false (Sh.agg [Sh.str, (Sh.agg [Sh.int IntKind.i64, Sh.int IntKind.i64]).slice]) (45 : Nat) (out ++ [AV.agg [AV.str (kN (ks.getD i AV.unk)), AV.slv (Sh.agg [Sh.int IntKind.i64, Sh.int IntKind.i64]) (kU (ks.getD i AV.unk))]] ++ (wI s (keyV s us) d (List.drop (IntKind.i64.wrap ((↑i : Int) + (1 : Int))).toNat ks)).snd) none)] else none else none else none else none else bif decide (((↑ks.length : Int) - IntKind.i64.wrap ((↑i : Int) + (1 : Int))).toNat < ((↑ks.length : Int) - (↑i : Int)).toNat) then bif decide ((0 : Int) ≤ IntKind.i64.wrap ((↑i : Int) + (1 : Int)) ∧ IntKind.i64.wrap ((↑i : Int) + (1 : Int)) ≤ (↑ks.length : Int) ∧ ks.length ≤ (1000 : Nat) ∧ (↑out.length : Int) ≤ (2 : Int) * IntKind.i64.wrap ((↑i : Int) + (1 : Int))) then k (Ex.exit (0 : Nat)) [AV.str s, AV.slv (Sh.agg [Sh.int IntKind.i64, Sh.int IntKind.i64]) us, AV.ptr (0 : Nat) (0 : Nat), AV.ptr (1 : Nat) (0 : Nat), AV.own (900 : Nat), AV.bool (wI s (keyV s us) d (List.drop (IntKind.i64.wrap ((↑i : Int) + (1 : Int))).toNat ks)).fst, AV.int IntKind.i64 (↑ks.length : Int)] [some (Row.box false [AV.int IntKind.i64 w, AV.int IntKind.i64 m, AV.slv (Sh.agg [Sh.str, (Sh.agg [Sh.int IntKind.i64, Sh.int IntKind.i64]).slice]) ks]), some (Row.box false [AV.int IntKind.i64 (0 : Int), AV.int IntKind.i64 (0 : Int), AV.slz s0]), some (Row.arr false (Sh.agg [Sh.str, (Sh.agg [Sh.int IntKind.i64, Sh.int IntKind.i64]).slice]) (45 : Nat) (out ++ (wI s (keyV s us) d (List.drop (IntKind.i64.wrap ((↑i : Int) + (1 : Int))).toNat ks)).snd) none)] else none else none else none else none else bif inb (↑i : Int) ks.length then bif !(kN (ks.getD i AV.unk)) == s then bif inb (↑i : Int) ks.length then bif roomB (out.length + [AV.agg [AV.str (kN (ks.getD i AV.unk)), AV.slv (Sh.agg [Sh.int IntKind.i64, Sh.int IntKind.i64]) (kU (ks.getD i AV.unk))]].length) (Try.prog.bytesOf (45 : Nat)) then bif decide (((↑ks.length : Int) - IntKind.i64.wrap ((↑i : Int) + (1 : Int))).toNat < ((↑ks.length : Int) - (↑i : Int)).toNat) then bif decide ((0 : Int) ≤ IntKind.i64.wrap ((↑i : Int) + (1 : Int)) ∧ IntKind.i64.wrap ((↑i : Int) + (1 : Int)) ≤ (↑ks.length : Int) ∧ ks.length ≤ (1000 : Nat) ∧ (↑(out ++ [AV.agg [AV.str (kN (ks.getD i AV.unk)), AV.slv (Sh.agg [Sh.int IntKind.i64, Sh.int IntKind.i64]) (kU (ks.getD i AV.unk))]]).length : Int) ≤ (2 : Int) * IntKind.i64.wrap ((↑i : Int) + (1 : Int))) then k (Ex.exit (0 : Nat)) [AV.str s, AV.slv (Sh.agg [Sh.int IntKind.i64, Sh.int IntKind.i64]) us, AV.ptr (0 : Nat) (0 : Nat), AV.ptr (1 : Nat) (0 : Nat), AV.own (900 : Nat), AV.bool (wI s (keyV s us) d (List.drop (IntKind.i64.wrap ((↑i : Int) + (1 : Int))).toNat ks)).fst, AV.int IntKind.i64 (↑ks.length : Int)] [some (Row.box false [AV.int IntKind.i64 w, AV.int IntKind.i64 m, AV.slv (Sh.agg [Sh.str, (Sh.agg [Sh.int IntKind.i64, Sh.int IntKind.i64]).slice]) ks]), some (Row.box false [AV.int IntKind.i64 (0 : Int), AV.int IntKind.i64 (0 : Int), AV.slz s0]), some (Row.arr false (Sh.agg [Sh.str, (Sh.agg [Sh.int IntKind.i64, Sh.int IntKind.i64]).slice]) (45 : Nat) (out ++ [AV.agg [AV.str (kN (ks.getD i AV.unk)), AV.slv (Sh.agg [Sh.int IntKind.i64, Sh.int IntKind.i64]) (kU (ks.getD i AV.unk))]] ++ (wI s (keyV s us) d (List.drop (IntKind.i64.wrap ((↑i : Int) + (1 : Int))).toNat ks)).snd) none)] else none else none else none else none else bif decide (((↑ks.length : Int) - IntKind.i64.wrap ((↑i : Int) + (1 : Int))).toNat < ((↑ks.length : Int) - (↑i : Int)).toNat) then bif decide ((0 : Int) ≤ IntKind.i64.wrap ((↑i : Int) + (1 : Int)) ∧ IntKind.i64.wrap ((↑i : Int) + (1 : Int)) ≤ (↑ks.length : Int) ∧ ks.length ≤ (1000 : Nat) ∧ (↑out.length : Int) ≤ (2 : Int) * IntKind.i64.wrap ((↑i : Int) + (1 : Int))) then k (Ex.exit (0 : Nat)) [AV.str s, AV.slv (Sh.agg [Sh.int IntKind.i64, Sh.int IntKind.i64]) us, AV.ptr (0 : Nat) (0 : Nat), AV.ptr (1 : Nat) (0 : Nat), AV.own (900 : Nat), AV.bool (wI s (keyV s us) d (List.drop (IntKind.i64.wrap ((↑i : Int) + (1 : Int))).toNat ks)).fst, AV.int IntKind.i64 (↑ks.length : Int)] [some (Row.box false [AV.int IntKind.i64 w, AV.int IntKind.i64 m, AV.slv (Sh.agg [Sh.str, (Sh.agg [Sh.int IntKind.i64, Sh.int IntKind.i64]).slice]) ks]), some (Row.box false [AV.int IntKind.i64 (0 : Int), AV.int IntKind.i64 (0 : Int), AV.slz s0]), some (Row.arr false (Sh.agg [Sh.str, (Sh.agg [Sh.int IntKind.i64, Sh.int IntKind.i64]).slice]) (45 : Nat) (out ++ (wI s (keyV s us) d (List.drop (IntKind.i64.wrap ((↑i : Int) + (1 : Int))).toNat ks)).snd) none)] else none else none else none else k (Ex.exit (0 : Nat)) [AV.str s, AV.slv (Sh.agg [Sh.int IntKind.i64, Sh.int IntKind.i64]) us, AV.ptr (0 : Nat) (0 : Nat), AV.ptr (1 : Nat) (0 : Nat), AV.own (900 : Nat), AV.bool d, AV.int IntKind.i64 (↑i : Int)] [some (Row.box false [AV.int IntKind.i64 w, AV.int IntKind.i64 m, AV.slv (Sh.agg [Sh.str, (Sh.agg [Sh.int IntKind.i64, Sh.int IntKind.i64]).slice]) ks]), some (Row.box false [AV.int IntKind.i64 (0 : Int), AV.int IntKind.i64 (0 : Int), AV.slz s0]), some (Row.arr false (Sh.agg [Sh.str, (Sh.agg [Sh.int IntKind.i64, Sh.int IntKind.i64]).slice]) (45 : Nat) out none)]) (by kernel_rfl) ?_
    rw [← hk]
    by_cases hlt : i < ks.length
    · have e1 : IntKind.i64.wrap ((i : Int) + 1) = ((i + 1 : Nat) : Int) := by rw [wrap_mid _ (by omega) (by omega)]; omega
      have hb : inb (i : Int) ks.length = true := inb_true (by omega) (by omega)
      rw [drop_getD hlt, wI_cons, e1, hb, show wA s d (ks.getD i .unk) = (!d && !(Op.bytesLess (kN (ks.getD i .unk)) s)) from rfl]
      refine Eq.trans (cond_t (decide_eq_true (by omega))) ?_
      cases d <;> cases Op.bytesLess (kN (ks.getD i .unk)) s <;> cases kN (ks.getD i .unk) == s
      all_goals simp only [cond_true, cond_false, Bool.not_true, Bool.not_false, Bool.true_and, Bool.false_and, Bool.or_false, Bool.or_true, Bool.false_or, Bool.true_or]
      all_goals repeat refine Eq.trans (cond_t (by first | exact roomB_small (by simp only [List.length_append, List.length_cons, List.length_nil]; omega) byK | exact decide_eq_true (by first | omega | (simp only [List.length_append, List.length_cons, List.length_nil]; omega)))) ?_
      all_goals simp only [List.append_assoc, List.cons_append, List.nil_append, Int.toNat_natCast]
      all_goals rfl
    · obtain rfl : i = ks.length := by omega
      rw [decide_eq_false (by omega), List.drop_length]
      show _ = k (.exit 0) [.str s, .slv sU us, .ptr 0 0, .ptr 1 0, .own 900, .bool d, .int .i64 ks.length] [some (.box false [.int .i64 w, .int .i64 m, .slv sK ks]), some (.box false [.int .i64 0, .int .i64 0, .slz s0]), some (.arr false sK 45 (out ++ []) none)]
      rw [List.append_nil]
      rfl
  · cases h
theorem wI_len (s : List UInt8) (x : AV) : ∀ (ks : List AV) (d : Bool), (wI s x d ks).2.length ≤ 2 * ks.length
  | [], _ => Nat.le_refl _
  | e :: ks, d => by
    have := wI_len s x ks (d || wA s d e)
    rw [wI_cons]
    generalize wI s x (d || wA s d e) ks = q at *
    cases wA s d e <;> cases kN e == s <;> simp only [cond_true, cond_false, List.length_append, List.length_cons, List.length_nil] at * <;> omega
/-- The document's WithUses. -/
def wL (s : List UInt8) (us : List AV) (ks : List AV) : List AV := (wI s (keyV s us) false ks).2 ++ (bif (wI s (keyV s us) false ks).1 then [] else [keyV s us])
def F28 : List AV → Tr AV
  | [.agg [.int .i64 w, .int .i64 m, .slv (.agg [.str, .slice (.agg [.int .i64, .int .i64])]) ks], .str s, .slv (.agg [.int .i64, .int .i64]) us] => .gd (decide (ks.length ≤ 1000)) (.leaf (.agg [.int .i64 w, .int .i64 m, .slv sK (wL s us ks)]))
  | _ => .no
theorem ok28 : SumOK Try.prog 28 (ofT F28) ∧ SNat (ofT F28) := by
  refine fn1 (K := [(4, l28)]) (b := b28) (l := l28) g0 Try.func28 (by kernel_rfl) (by kernel_rfl) loop28 fun ρ avs k r h => ?_
  unfold F28 at h
  split at h
  · rename_i w m ks s us
    obtain ⟨hc, hk⟩ := gd_some h
    have hc := of_decide_eq_true hc
    refine Eq.trans (b := bif decide ((0 : Int) ≤ (0 : Int) ∧ (0 : Int) ≤ (↑ks.length : Int) ∧ ks.length ≤ (1000 : Nat) ∧ (↑([] : List AV).length : Int) ≤ (2 : Int) * (0 : Int)) then bif !(wI s (keyV s us) false (List.drop (0 : Nat) ks)).fst then bif roomB (([] ++ (wI s (keyV s us) false (List.drop (0 : Nat) ks)).snd).length + [AV.agg [AV.str s, AV.slv (Sh.agg [Sh.int IntKind.i64, Sh.int IntKind.i64]) us]].length) (Try.prog.bytesOf (45 : Nat)) then k (AV.agg [AV.int IntKind.i64 w, AV.int IntKind.i64 m, AV.slv (Sh.agg [Sh.str, (Sh.agg [Sh.int IntKind.i64, Sh.int IntKind.i64]).slice]) ([] ++ (wI s (keyV s us) false (List.drop (0 : Nat) ks)).snd ++ [AV.agg [AV.str s, AV.slv (Sh.agg [Sh.int IntKind.i64, Sh.int IntKind.i64]) us]])]) else none else k (AV.agg [AV.int IntKind.i64 w, AV.int IntKind.i64 m, AV.slv (Sh.agg [Sh.str, (Sh.agg [Sh.int IntKind.i64, Sh.int IntKind.i64]).slice]) ([] ++ (wI s (keyV s us) false (List.drop (0 : Nat) ks)).snd)]) else none) (by kernel_rfl) ?_
    rw [← hk]
    have hl := wI_len s (keyV s us) ks false
    refine Eq.trans (cond_t (decide_eq_true ⟨by omega, by omega, by omega, by simp⟩)) ?_
    show (bif !(wI s (keyV s us) false ks).1 then _ else _) = k (.agg [.int .i64 w, .int .i64 m, .slv sK ((wI s (keyV s us) false ks).2 ++ (bif (wI s (keyV s us) false ks).1 then [] else [keyV s us]))])
    cases (wI s (keyV s us) false ks).1
    · refine Eq.trans (cond_t rfl) (Eq.trans (cond_t (roomB_small (by
        show (wI s (keyV s us) false ks).2.length + 1 ≤ _
        omega) byK)) ?_)
      rfl
    · refine Eq.trans (cond_f rfl) ?_
      rw [cond_true, List.append_nil]
      rfl
  · cases h
end Go.Proofs.Ythacpbjcgmbplaa

/-
  The document's Allowed.
-/
namespace Go.Proofs.Ythacpbjcgmbplaa
open Go.Ev

noncomputable def G8 : Env := { pure := [(10, ofT F9), (27, ofT F27), (28, ofT F28), (13, ofT F13), (14, evF Try.prog G0 [] Try.f14), (26, evF Try.prog { pure := [(13, ofT F13)] } [] Try.f26)] }
theorem g8 : GOK Try.prog G8 := GOK.also (GOK.also (GOK.also (GOK.also (GOK.also (GOK.also g0 (inl (GOK.also g0 ok13) Try.func26 (by kernel_rfl))) (inl g0 Try.func14 (by kernel_rfl))) ok13) ok28) ok27) ok10
noncomputable def b8 : Code := ((Try.f8.body.map loopsOf).getD []).headD .skip
def leftX (now w : Int) (us : List AV) : List AV := (leftU now w us).map uE
theorem leftX_cons (now w : Int) (e : AV) (r : List AV) : leftX now w (e :: r) = bif !oldU now w e then uE e :: leftX now w r else leftX now w r := by
  unfold leftX leftU
  cases h : oldU now w e <;> simp [h]
theorem lt_old (now w : Int) (e : AV) : decide (IntKind.i64.wrap (now - uA e) < w) = !oldU now w e := by
  unfold oldU
  by_cases h : IntKind.i64.wrap (now - uA e) < w
  · rw [decide_eq_true h, decide_eq_false (by omega)]; rfl
  · rw [decide_eq_false h, decide_eq_true (by omega)]; rfl
def lateX (now : Int) (us : List AV) (j : Nat) : Bool := decide (uA (us.getD j .unk) > now)
def L8 : List AV → List (Option Row) → Tr LOut
  | [.str s, .int .i64 n, .int .i64 now, .ptr 0 0, .ptr 1 0, .bool false, .ptr 3 0, .slv (.agg [.int .i64, .int .i64]) us, .int .i64 a, .own 900, .int .i64 sm, .int .i64 i], [some (.box false [.int .i64 w, .int .i64 m, .slv (.agg [.str, .slice (.agg [.int .i64, .int .i64])]) ks]), some (.box false [.int .i64 0, .int .i64 0, .slz (.agg [.str, .slice (.agg [.int .i64, .int .i64])])]), some (.box false [.int .i64 0, .int .i64 0]), some (.arr false (.agg [.int .i64, .int .i64]) 36 out none)] =>
    .gd (decide (0 ≤ i ∧ i ≤ us.length ∧ us.length ≤ 1000 ∧ out.length ≤ i)) (sT (lateX now us) us.length
      (fun q => .leaf (.ret, [.str s, .int .i64 n, .int .i64 now, .ptr 0 0, .ptr 1 0, .bool false, .ptr 3 0, .slv sU us, .int .i64 a, .own 900, .int .i64 (sumU sm (leftX now w ((us.take q).drop i.toNat))), .int .i64 q], [some (.box false [.int .i64 w, .int .i64 m, .slv sK ks]), some (.box false [.int .i64 0, .int .i64 0, .slz sK]), some (.box false [.int .i64 19, .int .i64 a]), some (.arr false sU 36 (out ++ leftX now w ((us.take q).drop i.toNat)) none)]))
      (.leaf (.exit 0, [.str s, .int .i64 n, .int .i64 now, .ptr 0 0, .ptr 1 0, .bool false, .ptr 3 0, .slv sU us, .int .i64 a, .own 900, .int .i64 (sumU sm (leftX now w (us.drop i.toNat))), .int .i64 us.length], [some (.box false [.int .i64 w, .int .i64 m, .slv sK ks]), some (.box false [.int .i64 0, .int .i64 0, .slz sK]), some (.box false [.int .i64 0, .int .i64 0]), some (.arr false sU 36 (out ++ leftX now w (us.drop i.toNat)) none)])) i.toNat)
  | _, _ => .no
def l8 : Ev.Loop := ⟨{ len := 122, slots := [1, 2, 3, 4, 8, 9, 10, 12, 13, 14, 15, 16], rows := [0, 1, 3, 900], homes := [(14, 900, 36)] }, ofL L8⟩
def μ8 (vs : List AV) (_ : List (Option Row)) : Nat := match vs with
  | [_, _, _, _, _, _, _, .slv _ us, _, _, _, .int _ i] => ((us.length : Int) - i).toNat
  | _ => 0
theorem loop8 : LoopOK Try.prog G8 [(16, l8)] b8 l8 := by
  refine loopT g8.natOK rfl (KOK.nil (by kernel_rfl)) μ8 (fun ρ vs rs k r h => ?_)
  unfold L8 at h
  split at h
  · rename_i s n now us a sm i' w m ks out
    obtain ⟨hc, hk⟩ := gd_some h
    obtain ⟨d1, d2, d3, d4⟩ := of_decide_eq_true hc
    obtain ⟨i, rfl⟩ : ∃ i : Nat, i' = i := ⟨i'.toNat, by omega⟩
    rw [Int.toNat_natCast] at hk
    refine Eq.trans (b := bif decide ((↑i : Int) < (↑us.length : Int)) then bif inb (↑i : Int) us.length then bif decide (((us.getD i AV.unk).cells.headD AV.unk).toInt > now) then k Ex.ret [AV.str s, AV.int IntKind.i64 n, AV.int IntKind.i64 now, AV.ptr (0 : Nat) (0 : Nat), AV.ptr (1 : Nat) (0 : Nat), AV.bool false, AV.ptr (3 : Nat) (0 : Nat), AV.slv (Sh.agg [Sh.int IntKind.i64, Sh.int IntKind.i64]) us, AV.int IntKind.i64 a, AV.own (900 : Nat), AV.int IntKind.i64 sm, AV.int IntKind.i64 (↑i : Int)] [some (Row.box false [AV.int IntKind.i64 w, AV.int IntKind.i64 m, AV.slv (Sh.agg [Sh.str, (Sh.agg [Sh.int IntKind.i64, Sh.int IntKind.i64]).slice]) ks]), some (Row.box false [AV.int IntKind.i64 (0 : Int), AV.int IntKind.i64 (0 : Int), AV.slz (Sh.agg [Sh.str, (Sh.agg [Sh.int IntKind.i64, Sh.int IntKind.i64]).slice])]), some (Row.box false [AV.int IntKind.i64 (19 : Int), AV.int IntKind.i64 a]), some (Row.arr false (Sh.agg [Sh.int IntKind.i64, Sh.int IntKind.i64]) (36 : Nat) out none)] else bif inb (↑i : Int) us.length then bif decide (IntKind.i64.wrap (now - ((us.getD i AV.unk).cells.headD AV.unk).toInt) < w) then bif inb (↑i : Int) us.length then bif roomB (out.length + [AV.agg [AV.int IntKind.i64 ((us.getD i AV.unk).cells.headD AV.unk).toInt, AV.int IntKind.i64 ((us.getD i AV.unk).cells.tail.headD AV.unk).toInt]].length) (Try.prog.bytesOf (36 : Nat)) then bif inb (↑i : Int) us.length then bif decide (((↑us.length : Int) - IntKind.i64.wrap ((↑i : Int) + (1 : Int))).toNat < ((↑us.length : Int) - (↑i : Int)).toNat) then bif decide ((0 : Int) ≤ IntKind.i64.wrap ((↑i : Int) + (1 : Int)) ∧ IntKind.i64.wrap ((↑i : Int) + (1 : Int)) ≤ (↑us.length : Int) ∧ us.length ≤ (1000 : Nat) ∧ (↑(out ++ [AV.agg [AV.int IntKind.i64 ((us.getD i AV.unk).cells.headD AV.unk).toInt, AV.int IntKind.i64 ((us.getD i AV.unk).cells.tail.headD AV.unk).toInt]]).length : Int) ≤ IntKind.i64.wrap ((↑i : Int) + (1 : Int))) then bif (findN (lateX now us) us.length (IntKind.i64.wrap ((↑i : Int) + (1 : Int))).toNat).isSome then k Ex.ret [AV.str s, AV.int IntKind.i64 n, AV.int IntKind.i64 now, AV.ptr (0 : Nat) (0 : Nat), AV.ptr (1 : Nat) (0 : Nat), AV.bool false, AV.ptr (3 : Nat) (0 : Nat), AV.slv (Sh.agg [Sh.int IntKind.i64, Sh.int IntKind.i64]) us, AV.int IntKind.i64 a, AV.own (900 : Nat), AV.int IntKind.i64 (sumU (IntKind.i64.wrap (sm + ((us.getD i AV.unk).cells.tail.headD AV.unk).toInt)) (leftX now w (List.drop (IntKind.i64.wrap ((↑i : Int) + (1 : Int))).toNat (List.take ((findN (lateX now us) us.length (IntKind.i64.wrap ((↑i : Int) + (1 : Int))).toNat).getD (0 : Nat)) us)))), AV.int IntKind.i64 (↑((findN (lateX now us) us.length (IntKind.i64.wrap ((↑i : Int) + (1 : Int))).toNat).getD (0 : Nat)) : Int)] [some (Row.box false [AV.int IntKind.i64 w, AV.int IntKind.i64 m, AV.slv (Sh.agg [Sh.str, (Sh.agg [Sh.int IntKind.i64, Sh.int IntKind.i64]).slice]) ks]), some (Row.box false [AV.int IntKind.i64 (0 : Int), AV.int IntKind.i64 (0 : Int), AV.slz (Sh.agg [Sh.str, (Sh.agg [Sh.int IntKind.i64, Sh.int IntKind.i64]).slice])]), some (Row.box false [AV.int IntKind.i64 (19 : Int), AV.int IntKind.i64 a]), some (Row.arr false (Sh.agg [Sh.int IntKind.i64, Sh.int IntKind.i64]) (36 : Nat) (out ++ [AV.agg [AV.int IntKind.i64 ((us.getD i AV.unk).cells.headD AV.unk).toInt, AV.int IntKind.i64 ((us.getD i AV.unk).cells.tail.headD AV.unk).toInt]] ++ leftX now w (List.drop (IntKind.i64.wrap ((↑i : Int) + (1 : Int))).toNat (List.take ((findN (lateX now us) us.length (IntKind.i64.wrap ((↑i : Int) + (1 : Int))).toNat).getD (0 : Nat)) us))) none)] else k (Ex.exit (0 : Nat)) [AV.str s, AV.int IntKind.i64 n, AV.int IntKind.i64 now, AV.ptr (0 : Nat) (0 : Nat), AV.ptr (1 : Nat) (0 : Nat), AV.bool false, AV.ptr (3 : Nat) (0 : Nat), AV.slv (Sh.agg [Sh.int IntKind.i64, Sh.int IntKind.i64]) us, AV.int IntKind.i64 a, AV.own (900 : Nat), AV.int IntKind.i64 (sumU (IntKind.i64.wrap (sm + ((us.getD i AV.unk).cells.tail.headD AV.unk).toInt)) (leftX now w (List.drop (IntKind.i64.wrap ((↑i : Int) + (1 : Int))).toNat us))), AV.int IntKind.i64 (↑us.length : Int)] [some (Row.box false [AV.int IntKind.i64 w, AV.int IntKind.i64 m, AV.slv (Sh.agg [Sh.str, (Sh.agg [Sh.int IntKind.i64, Sh.int IntKind.i64]).slice]) ks]), some (Row.box false [AV.int IntKind.i64 (0 : Int), AV.int IntKind.i64 (0 : Int), AV.slz (Sh.agg [Sh.str, (Sh.agg [Sh.int IntKind.i64, Sh.int IntKind.i64]).slice])]), some (Row.box false [AV.int IntKind.i64 (0 : Int), AV.int IntKind.i64 (0 : Int)]), some (Row.arr false (Sh.agg [Sh.int IntKind.i64, Sh.int IntKind.i64]) (36 : Nat) (out ++ [AV.agg [AV.int IntKind.i64 ((us.getD i AV.unk).cells.headD AV.unk).toInt, AV.int IntKind.i64 ((us.getD i AV.unk).cells.tail.headD AV.unk).toInt]] ++ leftX now w (List.drop (IntKind.i64.wrap ((↑i : Int) + (1 : Int))).toNat us)) none)] else none else none else none else none else none else bif decide (((↑us.length : Int) - IntKind.i64.wrap ((↑i : Int) + (1 : Int))).toNat < ((↑us.length : Int) - (↑i : Int)).toNat) then bif decide ((0 : Int) ≤ IntKind.i64.wrap ((↑i : Int) + (1 : Int)) ∧ IntKind.i64.wrap ((↑i : Int) + (1 : Int)) ≤ (↑us.length : Int) ∧ us.length ≤ (1000 : Nat) ∧ (↑out.length : Int) ≤ IntKind.i64.wrap ((↑i : Int) + (1 : Int))) then bif (findN (lateX now us) us.length (IntKind.i64.wrap ((↑i : Int) + (1 : Int))).toNat).isSome then k Ex.ret [AV.str s, AV.int IntKind.i64 n, AV.int IntKind.i64 now, AV.ptr (0 : Nat) (0 : Nat), AV.ptr (1 : Nat) (0 : Nat), AV.bool false, AV.ptr (3 : Nat) (0 : Nat), AV.slv (Sh.agg [Sh.int IntKind.i64, Sh.int IntKind.i64]) us, AV.int IntKind.i64 a, AV.own (900 : Nat), AV.int IntKind.i64 (sumU sm (leftX now w (List.drop (IntKind.i64.wrap ((↑i : Int) + (1 : Int))).toNat (List.take ((findN (lateX now us) us.length (IntKind.i64.wrap ((↑i : Int) + (1 : Int))).toNat).getD (0 : Nat)) us)))), AV.int IntKind.i64 (↑((findN (lateX now us) us.length (IntKind.i64.wrap ((↑i : Int) + (1 : Int))).toNat).getD (0 : Nat)) : Int)] [some (Row.box false [AV.int IntKind.i64 w, AV.int IntKind.i64 m, AV.slv (Sh.agg [Sh.str, (Sh.agg [Sh.int IntKind.i64, Sh.int IntKind.i64]).slice]) ks]), some (Row.box false [AV.int IntKind.i64 (0 : Int), AV.int IntKind.i64 (0 : Int), AV.slz (Sh.agg [Sh.str, (Sh.agg [Sh.int IntKind.i64, Sh.int IntKind.i64]).slice])]), some (Row.box false [AV.int IntKind.i64 (19 : Int), AV.int IntKind.i64 a]), some (Row.arr false (Sh.agg [Sh.int IntKind.i64, Sh.int IntKind.i64]) (36 : Nat) (out ++ leftX now w (List.drop (IntKind.i64.wrap ((↑i : Int) + (1 : Int))).toNat (List.take ((findN (lateX now us) us.length (IntKind.i64.wrap ((↑i : Int) + (1 : Int))).toNat).getD (0 : Nat)) us))) none)] else k (Ex.exit (0 : Nat)) [AV.str s, AV.int IntKind.i64 n, AV.int IntKind.i64 now, AV.ptr (0 : Nat) (0 : Nat), AV.ptr (1 : Nat) (0 : Nat), AV.bool false, AV.ptr (3 : Nat) (0 : Nat), AV.slv (Sh.agg [Sh.int IntKind.i64, Sh.int IntKind.i64]) us, AV.int IntKind.i64 a, AV.own (900 : Nat), AV.int IntKind.i64 (sumU sm (leftX now w (List.drop (IntKind.i64.wrap ((↑i : Int) + (1 : Int))).toNat us))), AV.int IntKind.i64 (↑us.length : Int)] [some (Row.box false [AV.int IntKind.i64 w, AV.int IntKind.i64 m, AV.slv (Sh.agg [Sh.str, (Sh.agg [Sh.int IntKind.i64, Sh.int IntKind.i64]).slice]) ks]), some (Row.box false [AV.int IntKind.i64 (0 : Int), AV.int IntKind.i64 (0 : Int), AV.slz (Sh.agg [Sh.str, (Sh.agg [Sh.int IntKind.i64, Sh.int IntKind.i64]).slice])]), some (Row.box false [AV.int IntKind.i64 (0 : Int), AV.int IntKind.i64 (0 : Int)]), some (Row.arr false (Sh.agg [Sh.int IntKind.i64, Sh.int IntKind.i64]) (36 : Nat) (out ++ leftX now w (List.drop (IntKind.i64.wrap ((↑i : Int) + (1 : Int))).toNat us)) none)] else none else none else none else none else k (Ex.exit (0 : Nat)) [AV.str s, AV.int IntKind.i64 n, AV.int IntKind.i64 now, AV.ptr (0 : Nat) (0 : Nat), AV.ptr (1 : Nat) (0 : Nat), AV.bool false, AV.ptr (3 : Nat) (0 : Nat), AV.slv (Sh.agg [Sh.int IntKind.i64, Sh.int IntKind.i64]) us, AV.int IntKind.i64 a, AV.own (900 : Nat), AV.int IntKind.i64 sm, AV.int IntKind.i64 (↑i : Int)] [some (Row.box false [AV.int IntKind.i64 w, AV.int IntKind.i64 m, AV.slv (Sh.agg [Sh.str, (Sh.agg [Sh.int IntKind.i64, Sh.int IntKind.i64]).slice]) ks]), some (Row.box false [AV.int IntKind.i64 (0 : Int), AV.int IntKind.i64 (0 : Int), AV.slz (Sh.agg [Sh.str, (Sh.agg [Sh.int IntKind.i64, Sh.int IntKind.i64]).slice])]), some (Row.box false [AV.int IntKind.i64 (0 : Int), AV.int IntKind.i64 (0 : Int)]), some (Row.arr false (Sh.agg [Sh.int IntKind.i64, Sh.int IntKind.i64]) (36 : Nat) out none)]) (by kernel_rfl) ?_
    rw [← hk]
    by_cases hlt : i < us.length
    · have e1 : IntKind.i64.wrap ((i : Int) + 1) = ((i + 1 : Nat) : Int) := by rw [wrap_mid _ (by omega) (by omega)]; omega
      have hb : inb (i : Int) us.length = true := inb_true (by omega) (by omega)
      rw [sT_step _ _ _ _ _ hlt, e1, hb]
      refine Eq.trans (cond_t (decide_eq_true (by omega))) ?_
      show (bif lateX now us i then _ else bif decide (IntKind.i64.wrap (now - uA (us.getD i .unk)) < w) then _ else _) = _
      rw [lt_old]
      cases hq : lateX now us i
      · have hX : leftX now w (us.drop i) = bif !oldU now w (us.getD i .unk) then uE (us.getD i .unk) :: leftX now w (us.drop (i + 1)) else leftX now w (us.drop (i + 1)) := by rw [drop_getD hlt, leftX_cons]
        have hY : ∀ q, i + 1 ≤ q → leftX now w ((us.take q).drop i) = bif !oldU now w (us.getD i .unk) then uE (us.getD i .unk) :: leftX now w ((us.take q).drop (i + 1)) else leftX now w ((us.take q).drop (i + 1)) := fun q hq => by
          have hl : i < (us.take q).length := by rw [List.length_take]; omega
          rw [drop_getD hl, leftX_cons]
          have : (us.take q).getD i .unk = us.getD i .unk := by
            rw [getD_eq hl, getD_eq hlt, List.getElem_take]
          rw [this]
        rw [hX]
        cases hf : findN (lateX now us) us.length (i + 1) with
        | none =>
          cases !oldU now w (us.getD i .unk)
          · simp only [cond_true, cond_false, Int.toNat_natCast]
            repeat refine Eq.trans (cond_t (decide_eq_true (by omega))) ?_
            rw [hf]
            simp only [sT, hf]
            rfl
          · simp only [cond_true, cond_false, Int.toNat_natCast]
            repeat refine Eq.trans (cond_t (by first | exact roomB_small (by simp only [List.length_append, List.length_cons, List.length_nil]; omega) byU | exact decide_eq_true (by first | omega | (simp only [List.length_append, List.length_cons, List.length_nil]; omega)))) ?_
            rw [hf]
            simp only [sT, hf, List.append_assoc, List.cons_append, List.nil_append]
            rfl
        | some q =>
          obtain ⟨hq1, _, _, _⟩ := findN_some hf
          have hY := hY q hq1
          cases ho : !oldU now w (us.getD i .unk)
          · rw [ho] at hY
            simp only [cond_true, cond_false, Int.toNat_natCast]
            repeat refine Eq.trans (cond_t (decide_eq_true (by omega))) ?_
            rw [hf]
            simp only [sT, hf, Option.getD, hY, cond_false]
            rfl
          · rw [ho] at hY
            simp only [cond_true, cond_false, Int.toNat_natCast]
            repeat refine Eq.trans (cond_t (by first | exact roomB_small (by simp only [List.length_append, List.length_cons, List.length_nil]; omega) byU | exact decide_eq_true (by first | omega | (simp only [List.length_append, List.length_cons, List.length_nil]; omega)))) ?_
            rw [hf]
            simp only [sT, hf, Option.getD, hY, cond_true, List.append_assoc, List.cons_append, List.nil_append]
            rfl
      · have hz : (us.take i).drop i = [] := List.drop_eq_nil_of_le (by rw [List.length_take]; omega)
        simp only [hz, cond_true]
        show _ = k .ret [.str s, .int .i64 n, .int .i64 now, .ptr 0 0, .ptr 1 0, .bool false, .ptr 3 0, .slv sU us, .int .i64 a, .own 900, .int .i64 sm, .int .i64 i] [some (.box false [.int .i64 w, .int .i64 m, .slv sK ks]), some (.box false [.int .i64 0, .int .i64 0, .slz sK]), some (.box false [.int .i64 19, .int .i64 a]), some (.arr false sU 36 (out ++ []) none)]
        rw [List.append_nil]
    · obtain rfl : i = us.length := by omega
      rw [decide_eq_false (by omega), sT_end, List.drop_length]
      show _ = k (.exit 0) [.str s, .int .i64 n, .int .i64 now, .ptr 0 0, .ptr 1 0, .bool false, .ptr 3 0, .slv sU us, .int .i64 a, .own 900, .int .i64 sm, .int .i64 us.length] [some (.box false [.int .i64 w, .int .i64 m, .slv sK ks]), some (.box false [.int .i64 0, .int .i64 0, .slz sK]), some (.box false [.int .i64 0, .int .i64 0]), some (.arr false sU 36 (out ++ []) none)]
      rw [List.append_nil]
      rfl
  · cases h
def usesX (s : List UInt8) (ks : List AV) : List AV := kU (ks.getD ((fKey s ks).getD 0) .unk)
/-- What Allowed returns of a place (-1: none) and its uses. -/
def allowX (w m : Int) (ks : List AV) (s : List UInt8) (a : Int) (us : List AV) (n now : Int) : AV :=
  bif (findN (lateX now us) us.length 0).isSome then .tup [zeroR, .bool false, fault (19, a)] else
  bif decide (sumU n (leftX now w us) > m) then .tup [ratV w m (wL s (leftX now w us) ks), .bool false, fault (0, 0)] else
  bif ((leftX now w us).length : Int) == 300 then .tup [zeroR, .bool false, fault (2, a)] else
  .tup [ratV w m (wL s (leftX now w us ++ [useV now n]) ks), .bool true, fault (0, 0)]
def docV (w m : Int) (ks : List AV) (s : List UInt8) (n now : Int) : AV :=
  bif (valF w m ks s n now).1 != 0 then .tup [zeroR, .bool false, fault (valF w m ks s n now)] else
  bif (fKey s ks).isSome then allowX w m ks s (((fKey s ks).getD 0 : Nat) : Int) (usesX s ks) n now else
  bif (ks.length : Int) == 300 then .tup [zeroR, .bool false, fault (2, -1)] else allowX w m ks s (-1) [] n now
def F8 : List AV → Tr AV
  | [.agg [.int .i64 w, .int .i64 m, .slv (.agg [.str, .slice (.agg [.int .i64, .int .i64])]) ks], .str s, .int .i64 n, .int .i64 now] => .leaf (docV w m ks s n now)
  | _ => .no
theorem ok8 : SumOK Try.prog 8 (ofT F8) ∧ SNat (ofT F8) := by
  refine fn1 (K := [(16, l8)]) (b := b8) (l := l8) g8 Try.func8 (by kernel_rfl) (by kernel_rfl) loop8 fun ρ avs k r h => ?_
  unfold F8 at h
  split at h
  · rename_i w m ks s n now
    have hk := h
    refine Eq.trans (b := bif (ratF w m ks).fst != (0 : Int) then k (AV.tup [AV.agg [AV.int IntKind.i64 (0 : Int), AV.int IntKind.i64 (0 : Int), AV.slv (Sh.agg [Sh.str, (Sh.agg [Sh.int IntKind.i64, Sh.int IntKind.i64]).slice]) []], AV.bool false, AV.agg [AV.int IntKind.i64 (ratF w m ks).fst, AV.int IntKind.i64 (ratF w m ks).snd]]) else bif !inR (↑s.length : Int) (1 : Int) (4000 : Int) then k (AV.tup [AV.agg [AV.int IntKind.i64 (0 : Int), AV.int IntKind.i64 (0 : Int), AV.slv (Sh.agg [Sh.str, (Sh.agg [Sh.int IntKind.i64, Sh.int IntKind.i64]).slice]) []], AV.bool false, AV.agg [AV.int IntKind.i64 (10 : Int), AV.int IntKind.i64 (-4 : Int)]]) else bif !inR n (1 : Int) (1000000 : Int) then k (AV.tup [AV.agg [AV.int IntKind.i64 (0 : Int), AV.int IntKind.i64 (0 : Int), AV.slv (Sh.agg [Sh.str, (Sh.agg [Sh.int IntKind.i64, Sh.int IntKind.i64]).slice]) []], AV.bool false, AV.agg [AV.int IntKind.i64 (3 : Int), AV.int IntKind.i64 (-5 : Int)]]) else bif !inR now (-68719476736 : Int) (68719476736 : Int) then k (AV.tup [AV.agg [AV.int IntKind.i64 (0 : Int), AV.int IntKind.i64 (0 : Int), AV.slv (Sh.agg [Sh.str, (Sh.agg [Sh.int IntKind.i64, Sh.int IntKind.i64]).slice]) []], AV.bool false, AV.agg [AV.int IntKind.i64 (3 : Int), AV.int IntKind.i64 (-2 : Int)]]) else bif small ks.length then bif (fKey s ks).isSome then bif decide ((0 : Int) ≤ (0 : Int) ∧ (0 : Int) ≤ (↑(kU (ks.getD ((fKey s ks).getD (0 : Nat)) AV.unk)).length : Int) ∧ (kU (ks.getD ((fKey s ks).getD (0 : Nat)) AV.unk)).length ≤ (1000 : Nat) ∧ (↑([] : List AV).length : Int) ≤ (0 : Int)) then bif (findN (lateX now (kU (ks.getD ((fKey s ks).getD (0 : Nat)) AV.unk))) (kU (ks.getD ((fKey s ks).getD (0 : Nat)) AV.unk)).length (0 : Nat)).isSome then k (AV.tup [AV.agg [AV.int IntKind.i64 (0 : Int), AV.int IntKind.i64 (0 : Int), AV.slv (Sh.agg [Sh.str, (Sh.agg [Sh.int IntKind.i64, Sh.int IntKind.i64]).slice]) []], AV.bool false, AV.agg [AV.int IntKind.i64 (19 : Int), AV.int IntKind.i64 (↑((fKey s ks).getD (0 : Nat)) : Int)]]) else bif decide (sumU n (leftX now w (List.drop (0 : Nat) (kU (ks.getD ((fKey s ks).getD (0 : Nat)) AV.unk)))) > m) then bif decide (ks.length ≤ (1000 : Nat)) then k (AV.tup [AV.agg [AV.int IntKind.i64 w, AV.int IntKind.i64 m, AV.slv (Sh.agg [Sh.str, (Sh.agg [Sh.int IntKind.i64, Sh.int IntKind.i64]).slice]) (wL s ([] ++ leftX now w (List.drop (0 : Nat) (kU (ks.getD ((fKey s ks).getD (0 : Nat)) AV.unk)))) ks)], AV.bool false, AV.agg [AV.int IntKind.i64 (0 : Int), AV.int IntKind.i64 (0 : Int)]]) else none else bif (↑([] ++ leftX now w (List.drop (0 : Nat) (kU (ks.getD ((fKey s ks).getD (0 : Nat)) AV.unk)))).length : Int) == (300 : Int) then k (AV.tup [AV.agg [AV.int IntKind.i64 (0 : Int), AV.int IntKind.i64 (0 : Int), AV.slv (Sh.agg [Sh.str, (Sh.agg [Sh.int IntKind.i64, Sh.int IntKind.i64]).slice]) []], AV.bool false, AV.agg [AV.int IntKind.i64 (2 : Int), AV.int IntKind.i64 (↑((fKey s ks).getD (0 : Nat)) : Int)]]) else bif roomB (([] ++ leftX now w (List.drop (0 : Nat) (kU (ks.getD ((fKey s ks).getD (0 : Nat)) AV.unk)))).length + [AV.agg [AV.int IntKind.i64 now, AV.int IntKind.i64 n]].length) (Try.prog.bytesOf (36 : Nat)) then bif decide (ks.length ≤ (1000 : Nat)) then k (AV.tup [AV.agg [AV.int IntKind.i64 w, AV.int IntKind.i64 m, AV.slv (Sh.agg [Sh.str, (Sh.agg [Sh.int IntKind.i64, Sh.int IntKind.i64]).slice]) (wL s ([] ++ leftX now w (List.drop (0 : Nat) (kU (ks.getD ((fKey s ks).getD (0 : Nat)) AV.unk))) ++ [AV.agg [AV.int IntKind.i64 now, AV.int IntKind.i64 n]]) ks)], AV.bool true, AV.agg [AV.int IntKind.i64 (0 : Int), AV.int IntKind.i64 (0 : Int)]]) else none else none else none else bif (↑ks.length : Int) == (300 : Int) then k (AV.tup [AV.agg [AV.int IntKind.i64 (0 : Int), AV.int IntKind.i64 (0 : Int), AV.slv (Sh.agg [Sh.str, (Sh.agg [Sh.int IntKind.i64, Sh.int IntKind.i64]).slice]) []], AV.bool false, AV.agg [AV.int IntKind.i64 (2 : Int), AV.int IntKind.i64 (-1 : Int)]]) else bif decide (sumU n [] > m) then bif decide (ks.length ≤ (1000 : Nat)) then k (AV.tup [AV.agg [AV.int IntKind.i64 w, AV.int IntKind.i64 m, AV.slv (Sh.agg [Sh.str, (Sh.agg [Sh.int IntKind.i64, Sh.int IntKind.i64]).slice]) (wL s [] ks)], AV.bool false, AV.agg [AV.int IntKind.i64 (0 : Int), AV.int IntKind.i64 (0 : Int)]]) else none else bif decide (ks.length ≤ (1000 : Nat)) then k (AV.tup [AV.agg [AV.int IntKind.i64 w, AV.int IntKind.i64 m, AV.slv (Sh.agg [Sh.str, (Sh.agg [Sh.int IntKind.i64, Sh.int IntKind.i64]).slice]) (wL s [AV.agg [AV.int IntKind.i64 now, AV.int IntKind.i64 n]] ks)], AV.bool true, AV.agg [AV.int IntKind.i64 (0 : Int), AV.int IntKind.i64 (0 : Int)]]) else none else none) (by kernel_rfl) ?_
    rw [← hk]
    unfold docV
    cases hv : (valF w m ks s n now).1 != 0
    · obtain ⟨v1, v2, v3, v4⟩ := valF_zero hv
      obtain ⟨r1, r2, r3, r4⟩ := ratF_zero v1
      rw [v1, show inR (s.length : Int) 1 4000 = true from v2, v3, show inR now (-68719476736) 68719476736 = true from v4, show small ks.length = true from decide_eq_true (by omega), show decide (ks.length ≤ 1000) = true from decide_eq_true (by omega)]
      cases hf : fKey s ks with
      | none =>
        show (bif (ks.length : Int) == 300 then _ else bif decide (sumU n [] > m) then _ else _) = k (bif (ks.length : Int) == 300 then _ else bif decide (sumU n [] > m) then _ else _)
        cases (ks.length : Int) == 300
        · cases decide (sumU n [] > m) <;> rfl
        · rfl
      | some f =>
        obtain ⟨_, hlt, _, _⟩ := findN_some hf
        have hu := (keyC_zero (codeK_zero (r4 f hlt))).2.1
        have hfil : (leftX now w (kU (ks.getD f .unk))).length ≤ (kU (ks.getD f .unk)).length := by
          show ((leftU now w (kU (ks.getD f .unk))).map uE).length ≤ _
          rw [List.length_map]
          exact List.length_filter_le _ _
        rw [show (some f).getD 0 = f from rfl]
        have hroom : roomB (([] ++ leftX now w (List.drop 0 (kU (ks.getD f .unk)))).length + [useV now n].length) (Try.prog.bytesOf 36) = true := roomB_small (by show (leftX now w (kU (ks.getD f .unk))).length + 1 ≤ _; omega) byU
        unfold useV at hroom
        rw [hroom, show decide ((0 : Int) ≤ 0 ∧ (0 : Int) ≤ ((kU (ks.getD f .unk)).length : Int) ∧ (kU (ks.getD f .unk)).length ≤ 1000 ∧ (([] : List AV).length : Int) ≤ 0) = true from decide_eq_true ⟨by omega, by omega, by omega, by simp⟩]
        have hx : allowX w m ks s (((f : Nat)) : Int) (kU (ks.getD f .unk)) n now = allowX w m ks s ((f : Nat) : Int) (usesX s ks) n now := by
          unfold usesX
          rw [hf]
          rfl
        show _ = k (allowX w m ks s ((f : Nat) : Int) (usesX s ks) n now)
        rw [← hx]
        unfold allowX useV
        rw [show List.drop 0 (kU (ks.getD f .unk)) = kU (ks.getD f .unk) from rfl]
        generalize kU (ks.getD f .unk) = us
        cases (findN (lateX now us) us.length 0).isSome
        · cases decide (sumU n (leftX now w us) > m)
          · show (bif (((leftX now w us).length : Nat) : Int) == 300 then _ else _) = k (bif (((leftX now w us).length : Nat) : Int) == 300 then _ else _)
            cases ((leftX now w us).length : Int) == 300 <;> rfl
          · rfl
        · rfl
    · unfold valF at hv ⊢
      cases h1 : (ratF w m ks).1 != 0
      · rw [h1] at hv
        cases h2 : nmB s
        · rw [show inR (s.length : Int) 1 4000 = false from h2]; rfl
        · rw [show inR (s.length : Int) 1 4000 = true from h2]
          cases h3 : inR n 1 1000000
          · rfl
          · cases h4 : tmB now
            · rw [show inR now (-68719476736) 68719476736 = false from h4]; rfl
            · rw [h2, h3, h4] at hv; cases hv
      · rfl
  · cases h
end Go.Proofs.Ythacpbjcgmbplaa

namespace Go.Proofs.Ythacpbjcgmbplaa
open Go.Ev

noncomputable def b11 : Code := ((Try.f11.body.map loopsOf).getD []).headD .skip
noncomputable def c11 : Code := ((Try.f11.body.map loopsOf).getD []).tail.headD .skip
def difU (us vs : List AV) (u : Nat) : Bool := !(uA (us.getD u .unk) == uA (vs.getD u .unk) && (uN (us.getD u .unk) == uN (vs.getD u .unk) && true))
def difUs (us vs : List AV) : Bool := (us.length : Int) != (vs.length : Int) || (findN (difU us vs) us.length 0).isSome
def difK (ks js : List AV) (i : Nat) : Bool := !(kN (ks.getD i .unk) == kN (js.getD i .unk)) || difUs (kU (ks.getD i .unk)) (kU (js.getD i .unk))
def M11 : List AV → List (Option Row) → Tr LOut
  | [.ptr 0 0, .ptr 1 0, .bool false, .int .i64 i, .int .i64 u], [some (.box false [.int .i64 w, .int .i64 m, .slv (.agg [.str, .slice (.agg [.int .i64, .int .i64])]) ks]), some (.box false [.int .i64 w', .int .i64 m', .slv (.agg [.str, .slice (.agg [.int .i64, .int .i64])]) js])] =>
    .gd (cnt (kU (ks.getD i.toNat .unk)).length u (kU (ks.getD i.toNat .unk)).length && (Nat.beq (kU (js.getD i.toNat .unk)).length (kU (ks.getD i.toNat .unk)).length && (inb i ks.length && inb i js.length))) (sT (difU (kU (ks.getD i.toNat .unk)) (kU (js.getD i.toNat .unk))) (kU (ks.getD i.toNat .unk)).length
      (fun q => .leaf (.ret, [.ptr 0 0, .ptr 1 0, .bool false, .int .i64 i, .int .i64 (q : Nat)], [some (.box false [.int .i64 w, .int .i64 m, .slv sK ks]), some (.box false [.int .i64 w', .int .i64 m', .slv sK js])]))
      (.leaf (.exit 2, [.ptr 0 0, .ptr 1 0, .bool false, .int .i64 i, .int .i64 (kU (ks.getD i.toNat .unk)).length], [some (.box false [.int .i64 w, .int .i64 m, .slv sK ks]), some (.box false [.int .i64 w', .int .i64 m', .slv sK js])])) u.toNat)
  | _, _ => .no
def m11 : Ev.Loop := ⟨{ len := 95, slots := [2, 3, 4, 5, 6], rows := [0, 1] }, ofL M11⟩
def L11 : List AV → List (Option Row) → Tr LOut
  | [.ptr 0 0, .ptr 1 0, .bool false, .int .i64 i], [some (.box false [.int .i64 w, .int .i64 m, .slv (.agg [.str, .slice (.agg [.int .i64, .int .i64])]) ks]), some (.box false [.int .i64 w', .int .i64 m', .slv (.agg [.str, .slice (.agg [.int .i64, .int .i64])]) js])] =>
    .gd (cnt ks.length i ks.length && (Nat.beq js.length ks.length && ks.all okL)) (sT (difK ks js) ks.length
      (fun q => .leaf (.ret, [.ptr 0 0, .ptr 1 0, .bool false, .int .i64 (q : Nat)], [some (.box false [.int .i64 w, .int .i64 m, .slv sK ks]), some (.box false [.int .i64 w', .int .i64 m', .slv sK js])]))
      (.leaf (.exit 0, [.ptr 0 0, .ptr 1 0, .bool false, .int .i64 ks.length], [some (.box false [.int .i64 w, .int .i64 m, .slv sK ks]), some (.box false [.int .i64 w', .int .i64 m', .slv sK js])])) i.toNat)
  | _, _ => .no
def l11 : Ev.Loop := ⟨{ len := 95, slots := [2, 3, 4, 5], rows := [0, 1] }, ofL L11⟩
def μ11b (vs : List AV) (rs : List (Option Row)) : Nat := match vs, rs with
  | [_, _, _, .int _ i, .int _ u], [some (.box _ [_, _, .slv _ ks]), _] => (((kU (ks.getD i.toNat .unk)).length : Int) - u).toNat
  | _, _ => 0
def μ11 (vs : List AV) (rs : List (Option Row)) : Nat := match vs, rs with
  | [_, _, _, .int _ i], [some (.box _ [_, _, .slv _ ks]), _] => ((ks.length : Int) - i).toNat
  | _, _ => 0
theorem loop11b : LoopOK Try.prog G0 [(4, l11), (9, m11)] c11 m11 := by
  refine loopT g0.natOK rfl (KOK.nil (by kernel_rfl)) μ11b (fun ρ vs rs k r h => ?_)
  unfold M11 at h
  split at h
  · rename_i i u w m ks w' m' js
    obtain ⟨hc, hk⟩ := gd_some h
    simp only [Bool.and_eq_true] at hc
    obtain ⟨hc, hN, hi1, hi2⟩ := hc
    have hN' : (kU (js.getD i.toNat .unk)).length = (kU (ks.getD i.toNat .unk)).length := Nat.eq_of_beq_eq_true hN
    obtain ⟨_, hs, j, rfl, hj⟩ := cnt_spec hc
    rw [Int.toNat_natCast] at hk
    refine Eq.trans (b := bif inb i ks.length then bif decide ((↑j : Int) < (↑(kU (ks.getD i.toNat AV.unk)).length : Int)) then bif inb i ks.length then bif inb (↑j : Int) (kU (ks.getD i.toNat AV.unk)).length then bif inb i js.length then bif inb (↑j : Int) (kU (js.getD i.toNat AV.unk)).length then bif !((((kU (ks.getD i.toNat AV.unk)).getD j AV.unk).cells.headD AV.unk).toInt == (((kU (js.getD i.toNat AV.unk)).getD j AV.unk).cells.headD AV.unk).toInt && ((((kU (ks.getD i.toNat AV.unk)).getD j AV.unk).cells.tail.headD AV.unk).toInt == (((kU (js.getD i.toNat AV.unk)).getD j AV.unk).cells.tail.headD AV.unk).toInt && true)) then k Ex.ret [AV.ptr (0 : Nat) (0 : Nat), AV.ptr (1 : Nat) (0 : Nat), AV.bool false, AV.int IntKind.i64 i, AV.int IntKind.i64 (↑j : Int)] [some (Row.box false [AV.int IntKind.i64 w, AV.int IntKind.i64 m, AV.slv (Sh.agg [Sh.str, (Sh.agg [Sh.int IntKind.i64, Sh.int IntKind.i64]).slice]) ks]), some (Row.box false [AV.int IntKind.i64 w', AV.int IntKind.i64 m', AV.slv (Sh.agg [Sh.str, (Sh.agg [Sh.int IntKind.i64, Sh.int IntKind.i64]).slice]) js])] else bif decide (((↑(kU (ks.getD i.toNat AV.unk)).length : Int) - IntKind.i64.wrap ((↑j : Int) + (1 : Int))).toNat < ((↑(kU (ks.getD i.toNat AV.unk)).length : Int) - (↑j : Int)).toNat) then bif cnt (↑(kU (ks.getD i.toNat AV.unk)).length : Int) (IntKind.i64.wrap ((↑j : Int) + (1 : Int))) (kU (ks.getD i.toNat AV.unk)).length && ((kU (js.getD i.toNat AV.unk)).length.beq (kU (ks.getD i.toNat AV.unk)).length && (inb i ks.length && inb i js.length)) then bif (findN (difU (kU (ks.getD i.toNat AV.unk)) (kU (js.getD i.toNat AV.unk))) (kU (ks.getD i.toNat AV.unk)).length (IntKind.i64.wrap ((↑j : Int) + (1 : Int))).toNat).isSome then k Ex.ret [AV.ptr (0 : Nat) (0 : Nat), AV.ptr (1 : Nat) (0 : Nat), AV.bool false, AV.int IntKind.i64 i, AV.int IntKind.i64 (↑((findN (difU (kU (ks.getD i.toNat AV.unk)) (kU (js.getD i.toNat AV.unk))) (kU (ks.getD i.toNat AV.unk)).length (IntKind.i64.wrap ((↑j : Int) + (1 : Int))).toNat).getD (0 : Nat)) : Int)] [some (Row.box false [AV.int IntKind.i64 w, AV.int IntKind.i64 m, AV.slv (Sh.agg [Sh.str, (Sh.agg [Sh.int IntKind.i64, Sh.int IntKind.i64]).slice]) ks]), some (Row.box false [AV.int IntKind.i64 w', AV.int IntKind.i64 m', AV.slv (Sh.agg [Sh.str, (Sh.agg [Sh.int IntKind.i64, Sh.int IntKind.i64]).slice]) js])] else k (Ex.exit (2 : Nat)) [AV.ptr (0 : Nat) (0 : Nat), AV.ptr (1 : Nat) (0 : Nat), AV.bool false, AV.int IntKind.i64 i, AV.int IntKind.i64 (↑(kU (ks.getD i.toNat AV.unk)).length : Int)] [some (Row.box false [AV.int IntKind.i64 w, AV.int IntKind.i64 m, AV.slv (Sh.agg [Sh.str, (Sh.agg [Sh.int IntKind.i64, Sh.int IntKind.i64]).slice]) ks]), some (Row.box false [AV.int IntKind.i64 w', AV.int IntKind.i64 m', AV.slv (Sh.agg [Sh.str, (Sh.agg [Sh.int IntKind.i64, Sh.int IntKind.i64]).slice]) js])] else none else none else none else none else none else none else k (Ex.exit (2 : Nat)) [AV.ptr (0 : Nat) (0 : Nat), AV.ptr (1 : Nat) (0 : Nat), AV.bool false, AV.int IntKind.i64 i, AV.int IntKind.i64 (↑j : Int)] [some (Row.box false [AV.int IntKind.i64 w, AV.int IntKind.i64 m, AV.slv (Sh.agg [Sh.str, (Sh.agg [Sh.int IntKind.i64, Sh.int IntKind.i64]).slice]) ks]), some (Row.box false [AV.int IntKind.i64 w', AV.int IntKind.i64 m', AV.slv (Sh.agg [Sh.str, (Sh.agg [Sh.int IntKind.i64, Sh.int IntKind.i64]).slice]) js])] else none) (by kernel_rfl) ?_
    rw [← hk]
    generalize hus : kU (ks.getD i.toNat .unk) = us at *
    generalize hvs : kU (js.getD i.toNat .unk) = vs at *
    by_cases hlt : j < us.length
    · obtain ⟨e1, e2, e3, e4, e5⟩ := cnt_facts hlt hs
      have e6 : inb (j : Int) vs.length = true := inb_true (by omega) (by omega)
      have e7 : difU us vs j = (!(uA (us.getD j .unk) == uA (vs.getD j .unk) && (uN (us.getD j .unk) == uN (vs.getD j .unk) && true))) := rfl
      rw [sT_step _ _ _ _ _ hlt, e7]
      simp only [e1, e2, e3, e4, e5, e6, hi1, hi2, hN, cond_true, Int.toNat_natCast, Bool.and_self]
      show (bif !(uA (us.getD j .unk) == uA (vs.getD j .unk) && (uN (us.getD j .unk) == uN (vs.getD j .unk) && true)) then _ else _) = _
      cases !(uA (us.getD j .unk) == uA (vs.getD j .unk) && (uN (us.getD j .unk) == uN (vs.getD j .unk) && true)) <;> rfl
    · obtain rfl : j = us.length := by omega
      rw [decide_eq_false (by omega), sT_end, hi1]
      rfl
  · cases h
theorem loop11 : LoopOK Try.prog G0 [(4, l11), (9, m11)] b11 l11 := by
  refine loopT g0.natOK rfl (KOK.one (by kernel_rfl) (by kernel_rfl) loop11b) μ11 (fun ρ vs rs k r h => ?_)
  unfold L11 at h
  split at h
  · rename_i i w m ks w' m' js
    obtain ⟨hc, hk⟩ := gd_some h
    simp only [Bool.and_eq_true] at hc
    obtain ⟨hc, hN, hok⟩ := hc
    have hN' : js.length = ks.length := Nat.eq_of_beq_eq_true hN
    obtain ⟨_, hs, j, rfl, hj⟩ := cnt_spec hc
    rw [Int.toNat_natCast] at hk
    refine Eq.trans (b := bif decide ((↑j : Int) < (↑ks.length : Int)) then bif inb (↑j : Int) ks.length then bif inb (↑j : Int) js.length then bif !(kN (ks.getD j AV.unk)) == (kN (js.getD j AV.unk)) then k Ex.ret [AV.ptr (0 : Nat) (0 : Nat), AV.ptr (1 : Nat) (0 : Nat), AV.bool false, AV.int IntKind.i64 (↑j : Int)] [some (Row.box false [AV.int IntKind.i64 w, AV.int IntKind.i64 m, AV.slv (Sh.agg [Sh.str, (Sh.agg [Sh.int IntKind.i64, Sh.int IntKind.i64]).slice]) ks]), some (Row.box false [AV.int IntKind.i64 w', AV.int IntKind.i64 m', AV.slv (Sh.agg [Sh.str, (Sh.agg [Sh.int IntKind.i64, Sh.int IntKind.i64]).slice]) js])] else bif inb (↑j : Int) ks.length then bif inb (↑j : Int) js.length then bif (↑(kU (ks.getD j AV.unk)).length : Int) != (↑(kU (js.getD j AV.unk)).length : Int) then k Ex.ret [AV.ptr (0 : Nat) (0 : Nat), AV.ptr (1 : Nat) (0 : Nat), AV.bool false, AV.int IntKind.i64 (↑j : Int)] [some (Row.box false [AV.int IntKind.i64 w, AV.int IntKind.i64 m, AV.slv (Sh.agg [Sh.str, (Sh.agg [Sh.int IntKind.i64, Sh.int IntKind.i64]).slice]) ks]), some (Row.box false [AV.int IntKind.i64 w', AV.int IntKind.i64 m', AV.slv (Sh.agg [Sh.str, (Sh.agg [Sh.int IntKind.i64, Sh.int IntKind.i64]).slice]) js])] else bif cnt (↑(kU (ks.getD j AV.unk)).length : Int) (0 : Int) (kU (ks.getD j AV.unk)).length && ((kU (js.getD j AV.unk)).length.beq (kU (ks.getD j AV.unk)).length && (inb (↑j : Int) ks.length && inb (↑j : Int) js.length)) then bif (findN (difU (kU (ks.getD j AV.unk)) (kU (js.getD j AV.unk))) (kU (ks.getD j AV.unk)).length (0 : Nat)).isSome then k Ex.ret [AV.ptr (0 : Nat) (0 : Nat), AV.ptr (1 : Nat) (0 : Nat), AV.bool false, AV.int IntKind.i64 (↑j : Int)] [some (Row.box false [AV.int IntKind.i64 w, AV.int IntKind.i64 m, AV.slv (Sh.agg [Sh.str, (Sh.agg [Sh.int IntKind.i64, Sh.int IntKind.i64]).slice]) ks]), some (Row.box false [AV.int IntKind.i64 w', AV.int IntKind.i64 m', AV.slv (Sh.agg [Sh.str, (Sh.agg [Sh.int IntKind.i64, Sh.int IntKind.i64]).slice]) js])] else bif decide (((↑ks.length : Int) - IntKind.i64.wrap ((↑j : Int) + (1 : Int))).toNat < ((↑ks.length : Int) - (↑j : Int)).toNat) then bif cnt (↑ks.length : Int) (IntKind.i64.wrap ((↑j : Int) + (1 : Int))) ks.length && (js.length.beq ks.length && ks.all okL) then bif (findN (difK ks js) ks.length (IntKind.i64.wrap ((↑j : Int) + (1 : Int))).toNat).isSome then k Ex.ret [AV.ptr (0 : Nat) (0 : Nat), AV.ptr (1 : Nat) (0 : Nat), AV.bool false, AV.int IntKind.i64 (↑((findN (difK ks js) ks.length (IntKind.i64.wrap ((↑j : Int) + (1 : Int))).toNat).getD (0 : Nat)) : Int)] [some (Row.box false [AV.int IntKind.i64 w, AV.int IntKind.i64 m, AV.slv (Sh.agg [Sh.str, (Sh.agg [Sh.int IntKind.i64, Sh.int IntKind.i64]).slice]) ks]), some (Row.box false [AV.int IntKind.i64 w', AV.int IntKind.i64 m', AV.slv (Sh.agg [Sh.str, (Sh.agg [Sh.int IntKind.i64, Sh.int IntKind.i64]).slice]) js])] else k (Ex.exit (0 : Nat)) [AV.ptr (0 : Nat) (0 : Nat), AV.ptr (1 : Nat) (0 : Nat), AV.bool false, AV.int IntKind.i64 (↑ks.length : Int)] [some (Row.box false [AV.int IntKind.i64 w, AV.int IntKind.i64 m, AV.slv (Sh.agg [Sh.str, (Sh.agg [Sh.int IntKind.i64, Sh.int IntKind.i64]).slice]) ks]), some (Row.box false [AV.int IntKind.i64 w', AV.int IntKind.i64 m', AV.slv (Sh.agg [Sh.str, (Sh.agg [Sh.int IntKind.i64, Sh.int IntKind.i64]).slice]) js])] else none else none else none else none else none else none else none else k (Ex.exit (0 : Nat)) [AV.ptr (0 : Nat) (0 : Nat), AV.ptr (1 : Nat) (0 : Nat), AV.bool false, AV.int IntKind.i64 (↑j : Int)] [some (Row.box false [AV.int IntKind.i64 w, AV.int IntKind.i64 m, AV.slv (Sh.agg [Sh.str, (Sh.agg [Sh.int IntKind.i64, Sh.int IntKind.i64]).slice]) ks]), some (Row.box false [AV.int IntKind.i64 w', AV.int IntKind.i64 m', AV.slv (Sh.agg [Sh.str, (Sh.agg [Sh.int IntKind.i64, Sh.int IntKind.i64]).slice]) js])]) (by kernel_rfl) ?_
    rw [← hk]
    by_cases hlt : j < ks.length
    · obtain ⟨e1, e2, e3, e4, e5⟩ := cnt_facts hlt hs
      have e6 : inb (j : Int) js.length = true := inb_true (by omega) (by omega)
      have hj : okL (ks.getD j .unk) = true := List.all_eq_true.1 hok _ (by rw [getD_eq hlt]; exact List.getElem_mem hlt)
      have hj := of_decide_eq_true hj
      have c0 : cnt ((kU (ks.getD j .unk)).length : Int) 0 (kU (ks.getD j .unk)).length = true := cnt_zero (decide_eq_true (by omega))
      have e7 : difK ks js j = (!(kN (ks.getD j .unk) == kN (js.getD j .unk)) || ((kU (ks.getD j .unk)).length : Int) != ((kU (js.getD j .unk)).length : Int) || (findN (difU (kU (ks.getD j .unk)) (kU (js.getD j .unk))) (kU (ks.getD j .unk)).length 0).isSome) := by
        unfold difK difUs
        rw [Bool.or_assoc]
      rw [sT_step _ _ _ _ _ hlt, e7]
      simp only [e1, e2, e3, e4, e5, e6, hN, hok, c0, cond_true, Int.toNat_natCast, Bool.and_self, Bool.and_true]
      cases kN (ks.getD j .unk) == kN (js.getD j .unk)
      · rfl
      · by_cases hl : (kU (ks.getD j .unk)).length = (kU (js.getD j .unk)).length
        · have hb : (((kU (ks.getD j .unk)).length : Int) != ((kU (js.getD j .unk)).length : Int)) = false := by rw [hl]; exact bne_self_eq_false _
          have hb2 : Nat.beq (kU (js.getD j .unk)).length (kU (ks.getD j .unk)).length = true := by rw [hl]; exact Nat.beq_refl _
          rw [hb, hb2]
          cases (findN (difU (kU (ks.getD j .unk)) (kU (js.getD j .unk))) (kU (ks.getD j .unk)).length 0).isSome <;> rfl
        · have hb : (((kU (ks.getD j .unk)).length : Int) != ((kU (js.getD j .unk)).length : Int)) = true := bne_iff_ne.2 (by omega)
          rw [hb]
          rfl
    · obtain rfl : j = ks.length := by omega
      rw [decide_eq_false (by omega), sT_end]
      rfl
  · cases h
def samR (w m w' m' : Int) (ks js : List AV) : Bool := (w == w') && ((m == m') && (Nat.beq js.length ks.length && !(findN (difK ks js) ks.length 0).isSome))
def F11 : List AV → Tr AV
  | [.agg [.int .i64 w, .int .i64 m, .slv (.agg [.str, .slice (.agg [.int .i64, .int .i64])]) ks], .agg [.int .i64 w', .int .i64 m', .slv (.agg [.str, .slice (.agg [.int .i64, .int .i64])]) js]] => .gd (small ks.length && ks.all okL) (.leaf (.bool (samR w m w' m' ks js)))
  | _ => .no
theorem ok11 : SumOK Try.prog 11 (ofT F11) ∧ SNat (ofT F11) := by
  refine fnT (K := [(4, l11), (9, m11)]) (bs := [b11, c11]) g0 Try.func11 (by kernel_rfl) (fun b hb => ?_) fun ρ avs k r h => ?_
  · rcases List.mem_cons.1 hb with rfl | hb
    · exact ⟨l11, by kernel_rfl, loop11⟩
    · rcases List.mem_cons.1 hb with rfl | hb
      · exact ⟨m11, by kernel_rfl, loop11b⟩
      · cases hb
  unfold F11 at h
  split at h
  · rename_i w m ks w' m' js
    obtain ⟨hc, hk⟩ := gd_some h
    simp only [Bool.and_eq_true] at hc
    obtain ⟨hc, hok⟩ := hc
    refine Eq.trans (b := bif w != w' then k (AV.bool false) else bif m != m' then k (AV.bool false) else bif (↑ks.length : Int) != (↑js.length : Int) then k (AV.bool false) else bif cnt (↑ks.length : Int) (0 : Int) ks.length && (js.length.beq ks.length && ks.all okL) then bif (findN (difK ks js) ks.length (0 : Nat)).isSome then k (AV.bool false) else k (AV.bool true) else none) (by kernel_rfl) ?_
    rw [← hk, cnt_zero hc]
    show _ = k (.bool (samR w m w' m' ks js))
    unfold samR
    rw [show (w != w') = !(w == w') from rfl, show (m != m') = !(m == m') from rfl]
    cases w == w'
    · rfl
    · cases m == m'
      · rfl
      · by_cases hl : js.length = ks.length
        · rw [hl, Nat.beq_refl, show ((ks.length : Int) != (ks.length : Int)) = false from bne_self_eq_false _, hok]
          show (bif (findN (difK ks js) ks.length 0).isSome then _ else _) = _
          cases (findN (difK ks js) ks.length 0).isSome <;> rfl
        · rw [show ((ks.length : Int) != (js.length : Int)) = true from bne_iff_ne.2 (by omega), show Nat.beq js.length ks.length = false from (Bool.eq_false_iff.2 fun hb => hl (Nat.eq_of_beq_eq_true hb))]
          rfl
  · cases h
end Go.Proofs.Ythacpbjcgmbplaa
