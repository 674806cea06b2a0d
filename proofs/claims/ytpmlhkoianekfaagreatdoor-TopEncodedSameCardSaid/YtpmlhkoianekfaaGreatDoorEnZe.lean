/-
  Forms of messages: the fields of a part.
-/
import Derived.Test.YtpmlhkoianekfaaGreatDoorEnY
import Derived.Test.YtpmlhkoianekfaaGreatDoorEnB
import Derived.Test.YtpmlhkoianekfaaGreatDoorRows
import Derived.WalkKit
import Derived.ProofKit
import Derived.OpenShut
import Derived.Test.YtpmlhkoianekfaaGreatDoorEnV
import Derived.Test.YtpmlhkoianekfaaGreatDoorEnH
import Derived.Lib.ItoaLen

namespace Go.Proofs.YtpmlhkoianekfaaGreatDoor
open Go.Ev
def s7b : List UInt8 := [55, 98, 105, 116]
def s8b : List UInt8 := [56, 98, 105, 116]
def s64 : List UInt8 := [98, 97, 115, 101, 54, 52]
def sqp : List UInt8 := [113, 117, 111, 116, 101, 100, 45, 112, 114, 105, 110, 116, 97, 98, 108, 101]
def F78 : List AV → Tr AV
  | [.str s, .int .u8 m] => .leaf (.agg [.str s, .fn 120 [.ref [.int .u8 m]], .fn 121 []])
  | _ => .no
theorem ok78 : SumOK Tryz.prog 78 (ofT F78) ∧ SNat (ofT F78) := by
  refine fn0 g0 Tryz.func78 (by kernel_rfl) fun ρ avs k r h => ?_
  unfold F78 at h
  split at h
  · rename_i s m
    have hk := h
    refine Eq.trans (b := k (AV.agg [AV.str s, AV.fn (120 : Nat) [AV.ref [AV.int IntKind.u8 m]], AV.fn (121 : Nat) []])) (by kernel_rfl) ?_
    exact hk
  · cases h
noncomputable def G120 : Env := { pure := [(14, ofT F14), (13, ofT F13), (121, ofT F121)] }
theorem g120 : GOK Tryz.prog G120 := GOK.also (GOK.also (GOK.also g0 ok121) ok13) ok14
def p7V (es : List AV) (m : Int) : List AV := bif decide ((wg es m 0 0).1 ≥ 0) then [] else es
def p7C (es : List AV) (m : Int) : Int := bif decide ((wg es m 0 0).1 ≥ 0) then 17 else 0
def p7I (es : List AV) (m : Int) : Int := bif decide ((wg es m 0 0).1 ≥ 0) then (wg es m 0 0).1 else 0
def F120 : List AV → Tr AV
  | [.slv (.int .u8) es, .ref [.int .u8 m]] => .gd (decide (es.length ≤ 1000000)) (.leaf (.tup [.slv (.int .u8) (p7V es m), .agg [.int .i64 (p7C es m), .int .i64 (p7I es m)]]))
  | _ => .no
theorem ok120 : SumOK Tryz.prog 120 (ofT F120) ∧ SNat (ofT F120) := by
  refine fn0 g120 Tryz.func120 (by kernel_rfl) fun ρ avs k r h => ?_
  unfold F120 at h
  split at h
  · rename_i es m
    obtain ⟨hc, hk⟩ := gd_some h
    refine Eq.trans (b := bif small es.length then bif decide ((wg es m (0 : Int) (0 : Nat)).fst ≥ (0 : Int)) then k (AV.tup [AV.slv (Sh.int IntKind.u8) [], AV.agg [AV.int IntKind.i64 17, AV.int IntKind.i64 (wg es m (0 : Int) (0 : Nat)).fst]]) else bif decide (es.length ≤ (100000000000 : Nat)) then k (AV.tup [AV.slv (Sh.int IntKind.u8) es, AV.agg [AV.int IntKind.i64 0, AV.int IntKind.i64 0]]) else none else none) (by kernel_rfl) ?_
    have hl := of_decide_eq_true hc
    rw [← hk]
    unfold p7V p7C p7I
    refine Eq.trans (cond_t (decide_eq_true (by omega))) ?_
    cases decide ((wg es m 0 0).1 ≥ 0)
    · exact Eq.trans (cond_f rfl) (cond_t (decide_eq_true (by omega)))
    · rfl
  · cases h
noncomputable def G42 : Env := { pure := [(24, ofT F24), (78, ofT F78)] }
theorem g42 : GOK Tryz.prog G42 := GOK.also (GOK.also g0 ok78) ok24
noncomputable def b42 : Code := ((Tryz.f42.body.map loopsOf).getD []).headD .skip
def L42 : List AV → List (Option Row) → Tr LOut
  | [.str s, .ptr 0 0, .bool b, .own 68, .int .i64 n, .int .i64 i], [some (.box false [.str z, .nl, .nl]), some (.arr false (.agg [.str, .other, .other]) 53 [.agg [.str n0, .fn 120 [.ref [.int .u8 m0]], .fn 121 []], .agg [.str n1, .fn 120 [.ref [.int .u8 m1]], .fn 121 []], .agg [.str n2, .fn 17 [], .fn 79 []], .agg [.str n3, .fn 16 [], .fn 80 []]] none)] =>
    .gd (decide (n = 4 ∧ 0 ≤ i ∧ i ≤ 4) && (small s.length && (small n0.length && (small n1.length && (small n2.length && small n3.length)))))
      (.br (decide (i ≤ 0) && eqF n0 s) (.leaf (.ret, [.str s, .ptr 0 0, .bool true, .own 68, .int .i64 4, .int .i64 0], [some (.box false [.str n0, .fn 120 [.ref [.int .u8 m0]], .fn 121 []]), some (.arr false (.agg [.str, .other, .other]) 53 [.agg [.str n0, .fn 120 [.ref [.int .u8 m0]], .fn 121 []], .agg [.str n1, .fn 120 [.ref [.int .u8 m1]], .fn 121 []], .agg [.str n2, .fn 17 [], .fn 79 []], .agg [.str n3, .fn 16 [], .fn 80 []]] none)]))
      (.br (decide (i ≤ 1) && eqF n1 s) (.leaf (.ret, [.str s, .ptr 0 0, .bool true, .own 68, .int .i64 4, .int .i64 1], [some (.box false [.str n1, .fn 120 [.ref [.int .u8 m1]], .fn 121 []]), some (.arr false (.agg [.str, .other, .other]) 53 [.agg [.str n0, .fn 120 [.ref [.int .u8 m0]], .fn 121 []], .agg [.str n1, .fn 120 [.ref [.int .u8 m1]], .fn 121 []], .agg [.str n2, .fn 17 [], .fn 79 []], .agg [.str n3, .fn 16 [], .fn 80 []]] none)]))
      (.br (decide (i ≤ 2) && eqF n2 s) (.leaf (.ret, [.str s, .ptr 0 0, .bool true, .own 68, .int .i64 4, .int .i64 2], [some (.box false [.str n2, .fn 17 [], .fn 79 []]), some (.arr false (.agg [.str, .other, .other]) 53 [.agg [.str n0, .fn 120 [.ref [.int .u8 m0]], .fn 121 []], .agg [.str n1, .fn 120 [.ref [.int .u8 m1]], .fn 121 []], .agg [.str n2, .fn 17 [], .fn 79 []], .agg [.str n3, .fn 16 [], .fn 80 []]] none)]))
      (.br (decide (i ≤ 3) && eqF n3 s) (.leaf (.ret, [.str s, .ptr 0 0, .bool true, .own 68, .int .i64 4, .int .i64 3], [some (.box false [.str n3, .fn 16 [], .fn 80 []]), some (.arr false (.agg [.str, .other, .other]) 53 [.agg [.str n0, .fn 120 [.ref [.int .u8 m0]], .fn 121 []], .agg [.str n1, .fn 120 [.ref [.int .u8 m1]], .fn 121 []], .agg [.str n2, .fn 17 [], .fn 79 []], .agg [.str n3, .fn 16 [], .fn 80 []]] none)]))
      (.leaf (.exit 0, [.str s, .ptr 0 0, .bool b, .own 68, .int .i64 4, .int .i64 4], [some (.box false [.str z, .nl, .nl]), some (.arr false (.agg [.str, .other, .other]) 53 [.agg [.str n0, .fn 120 [.ref [.int .u8 m0]], .fn 121 []], .agg [.str n1, .fn 120 [.ref [.int .u8 m1]], .fn 121 []], .agg [.str n2, .fn 17 [], .fn 79 []], .agg [.str n3, .fn 16 [], .fn 80 []]] none)]))))))
  | _, _ => .no
def l42 : Ev.Loop := ⟨{ len := 23, slots := [0, 2, 3, 10, 11, 12], rows := [0, 68] }, ofL L42⟩
def μ42 (vs : List AV) (_ : List (Option Row)) : Nat := match vs with
  | [_, _, _, _, _, .int _ i] => (4 - i).toNat
  | _ => 0
theorem loop42 : LoopOK Tryz.prog G42 [(2, l42)] b42 l42 := by
  refine loopT g42.natOK rfl (KOK.nil (by kernel_rfl)) μ42 (fun ρ vs rs k r h => ?_)
  unfold L42 at h
  split at h
  · rename_i s b n i z n0 m0 n1 m1 n2 n3
    obtain ⟨hc, hk⟩ := gd_some h
    simp only [Bool.and_eq_true] at hc
    obtain ⟨hc, h0, h1, h2, h3, h4⟩ := hc
    obtain ⟨rfl, hi0, hi4⟩ := of_decide_eq_true hc
    rcases (by omega : i = 0 ∨ i = 1 ∨ i = 2 ∨ i = 3 ∨ i = 4) with rfl | rfl | rfl | rfl | rfl
    · skip
      refine Eq.trans (b := have c80 := (Row.arr false (Sh.agg [Sh.str, Sh.other, Sh.other]) (53 : Nat) [AV.agg [AV.str n0, AV.fn (120 : Nat) [AV.ref [AV.int IntKind.u8 m0]], AV.fn (121 : Nat) []], AV.agg [AV.str n1, AV.fn (120 : Nat) [AV.ref [AV.int IntKind.u8 m1]], AV.fn (121 : Nat) []], AV.agg [AV.str n2, AV.fn (17 : Nat) [], AV.fn (79 : Nat) []], AV.agg [AV.str n3, AV.fn (16 : Nat) [], AV.fn (80 : Nat) []]] none); have c81 := ([AV.str n0, AV.fn (120 : Nat) [AV.ref [AV.int IntKind.u8 m0]], AV.fn (121 : Nat) []].headD AV.unk); bif small c81.toStr.length && small s.length then bif eqF c81.toStr s then k Ex.ret [AV.str s, AV.ptr 0 0, AV.bool true, AV.own 68, AV.int IntKind.i64 4, AV.int IntKind.i64 0] [some (Row.box false [AV.str c81.toStr, AV.fn (120 : Nat) [AV.ref [AV.int IntKind.u8 m0]], AV.fn (121 : Nat) []]), some c80] else bif decide ((4 : Int) = (4 : Int) ∧ (0 : Int) ≤ IntKind.i64.wrap ((0 : Int) + (1 : Int)) ∧ IntKind.i64.wrap ((0 : Int) + (1 : Int)) ≤ (4 : Int)) && (small s.length && (small n0.length && (small n1.length && (small n2.length && small n3.length)))) then bif decide (IntKind.i64.wrap ((0 : Int) + (1 : Int)) ≤ (1 : Int)) && eqF n1 s then k Ex.ret [AV.str s, AV.ptr 0 0, AV.bool true, AV.own 68, AV.int IntKind.i64 4, AV.int IntKind.i64 1] [some (Row.box false [AV.str n1, AV.fn (120 : Nat) [AV.ref [AV.int IntKind.u8 m1]], AV.fn (121 : Nat) []]), some c80] else bif decide (IntKind.i64.wrap ((0 : Int) + (1 : Int)) ≤ (2 : Int)) && eqF n2 s then k Ex.ret [AV.str s, AV.ptr 0 0, AV.bool true, AV.own 68, AV.int IntKind.i64 4, AV.int IntKind.i64 2] [some (Row.box false [AV.str n2, AV.fn (17 : Nat) [], AV.fn (79 : Nat) []]), some c80] else bif decide (IntKind.i64.wrap ((0 : Int) + (1 : Int)) ≤ (3 : Int)) && eqF n3 s then k Ex.ret [AV.str s, AV.ptr 0 0, AV.bool true, AV.own 68, AV.int IntKind.i64 4, AV.int IntKind.i64 3] [some (Row.box false [AV.str n3, AV.fn (16 : Nat) [], AV.fn (80 : Nat) []]), some c80] else k (Ex.exit (0 : Nat)) [AV.str s, AV.ptr 0 0, AV.bool b, AV.own 68, AV.int IntKind.i64 4, AV.int IntKind.i64 4] [some (Row.box false [AV.str z, AV.nl, AV.nl]), some c80] else none else none) (by kernel_rfl) ?_
      conv => zeta
      rw [← hk]
      refine Eq.trans (cond_t (and_t h1 h0)) ?_
      rw [h0, h1, h2, h3, h4]
      show (bif eqF n0 s then _ else _) = _
      cases eqF n0 s <;> rfl
    · skip
      refine Eq.trans (b := have c80 := (Row.arr false (Sh.agg [Sh.str, Sh.other, Sh.other]) (53 : Nat) [AV.agg [AV.str n0, AV.fn (120 : Nat) [AV.ref [AV.int IntKind.u8 m0]], AV.fn (121 : Nat) []], AV.agg [AV.str n1, AV.fn (120 : Nat) [AV.ref [AV.int IntKind.u8 m1]], AV.fn (121 : Nat) []], AV.agg [AV.str n2, AV.fn (17 : Nat) [], AV.fn (79 : Nat) []], AV.agg [AV.str n3, AV.fn (16 : Nat) [], AV.fn (80 : Nat) []]] none); have c81 := ([AV.str n1, AV.fn (120 : Nat) [AV.ref [AV.int IntKind.u8 m1]], AV.fn (121 : Nat) []].headD AV.unk); bif small c81.toStr.length && small s.length then bif eqF c81.toStr s then k Ex.ret [AV.str s, AV.ptr 0 0, AV.bool true, AV.own 68, AV.int IntKind.i64 4, AV.int IntKind.i64 1] [some (Row.box false [AV.str c81.toStr, AV.fn (120 : Nat) [AV.ref [AV.int IntKind.u8 m1]], AV.fn (121 : Nat) []]), some c80] else bif decide ((4 : Int) = (4 : Int) ∧ (0 : Int) ≤ IntKind.i64.wrap ((1 : Int) + (1 : Int)) ∧ IntKind.i64.wrap ((1 : Int) + (1 : Int)) ≤ (4 : Int)) && (small s.length && (small n0.length && (small n1.length && (small n2.length && small n3.length)))) then bif decide (IntKind.i64.wrap ((1 : Int) + (1 : Int)) ≤ (2 : Int)) && eqF n2 s then k Ex.ret [AV.str s, AV.ptr 0 0, AV.bool true, AV.own 68, AV.int IntKind.i64 4, AV.int IntKind.i64 2] [some (Row.box false [AV.str n2, AV.fn (17 : Nat) [], AV.fn (79 : Nat) []]), some c80] else bif decide (IntKind.i64.wrap ((1 : Int) + (1 : Int)) ≤ (3 : Int)) && eqF n3 s then k Ex.ret [AV.str s, AV.ptr 0 0, AV.bool true, AV.own 68, AV.int IntKind.i64 4, AV.int IntKind.i64 3] [some (Row.box false [AV.str n3, AV.fn (16 : Nat) [], AV.fn (80 : Nat) []]), some c80] else k (Ex.exit (0 : Nat)) [AV.str s, AV.ptr 0 0, AV.bool b, AV.own 68, AV.int IntKind.i64 4, AV.int IntKind.i64 4] [some (Row.box false [AV.str z, AV.nl, AV.nl]), some c80] else none else none) (by kernel_rfl) ?_
      conv => zeta
      rw [← hk]
      refine Eq.trans (cond_t (and_t h2 h0)) ?_
      rw [h0, h1, h2, h3, h4]
      show (bif eqF n1 s then _ else _) = _
      cases eqF n1 s <;> rfl
    · skip
      refine Eq.trans (b := have c80 := (Row.arr false (Sh.agg [Sh.str, Sh.other, Sh.other]) (53 : Nat) [AV.agg [AV.str n0, AV.fn (120 : Nat) [AV.ref [AV.int IntKind.u8 m0]], AV.fn (121 : Nat) []], AV.agg [AV.str n1, AV.fn (120 : Nat) [AV.ref [AV.int IntKind.u8 m1]], AV.fn (121 : Nat) []], AV.agg [AV.str n2, AV.fn (17 : Nat) [], AV.fn (79 : Nat) []], AV.agg [AV.str n3, AV.fn (16 : Nat) [], AV.fn (80 : Nat) []]] none); bif small ([AV.str n2, AV.fn (17 : Nat) [], AV.fn (79 : Nat) []].headD AV.unk).toStr.length && small s.length then bif eqF ([AV.str n2, AV.fn (17 : Nat) [], AV.fn (79 : Nat) []].headD AV.unk).toStr s then k Ex.ret [AV.str s, AV.ptr 0 0, AV.bool true, AV.own 68, AV.int IntKind.i64 4, AV.int IntKind.i64 2] [some (Row.box false [AV.str ([AV.str n2, AV.fn (17 : Nat) [], AV.fn (79 : Nat) []].headD AV.unk).toStr, AV.fn (17 : Nat) [], AV.fn (79 : Nat) []]), some c80] else bif decide ((4 : Int) = (4 : Int) ∧ (0 : Int) ≤ IntKind.i64.wrap ((2 : Int) + (1 : Int)) ∧ IntKind.i64.wrap ((2 : Int) + (1 : Int)) ≤ (4 : Int)) && (small s.length && (small n0.length && (small n1.length && (small n2.length && small n3.length)))) then bif decide (IntKind.i64.wrap ((2 : Int) + (1 : Int)) ≤ (3 : Int)) && eqF n3 s then k Ex.ret [AV.str s, AV.ptr 0 0, AV.bool true, AV.own 68, AV.int IntKind.i64 4, AV.int IntKind.i64 3] [some (Row.box false [AV.str n3, AV.fn (16 : Nat) [], AV.fn (80 : Nat) []]), some c80] else k (Ex.exit (0 : Nat)) [AV.str s, AV.ptr 0 0, AV.bool b, AV.own 68, AV.int IntKind.i64 4, AV.int IntKind.i64 4] [some (Row.box false [AV.str z, AV.nl, AV.nl]), some c80] else none else none) (by kernel_rfl) ?_
      conv => zeta
      rw [← hk]
      refine Eq.trans (cond_t (and_t h3 h0)) ?_
      rw [h0, h1, h2, h3, h4]
      show (bif eqF n2 s then _ else _) = _
      cases eqF n2 s <;> rfl
    · skip
      refine Eq.trans (b := have c80 := (Row.arr false (Sh.agg [Sh.str, Sh.other, Sh.other]) (53 : Nat) [AV.agg [AV.str n0, AV.fn (120 : Nat) [AV.ref [AV.int IntKind.u8 m0]], AV.fn (121 : Nat) []], AV.agg [AV.str n1, AV.fn (120 : Nat) [AV.ref [AV.int IntKind.u8 m1]], AV.fn (121 : Nat) []], AV.agg [AV.str n2, AV.fn (17 : Nat) [], AV.fn (79 : Nat) []], AV.agg [AV.str n3, AV.fn (16 : Nat) [], AV.fn (80 : Nat) []]] none); bif small ([AV.str n3, AV.fn (16 : Nat) [], AV.fn (80 : Nat) []].headD AV.unk).toStr.length && small s.length then bif eqF ([AV.str n3, AV.fn (16 : Nat) [], AV.fn (80 : Nat) []].headD AV.unk).toStr s then k Ex.ret [AV.str s, AV.ptr 0 0, AV.bool true, AV.own 68, AV.int IntKind.i64 4, AV.int IntKind.i64 3] [some (Row.box false [AV.str ([AV.str n3, AV.fn (16 : Nat) [], AV.fn (80 : Nat) []].headD AV.unk).toStr, AV.fn (16 : Nat) [], AV.fn (80 : Nat) []]), some c80] else bif decide ((4 : Int) = (4 : Int) ∧ (0 : Int) ≤ IntKind.i64.wrap ((3 : Int) + (1 : Int)) ∧ IntKind.i64.wrap ((3 : Int) + (1 : Int)) ≤ (4 : Int)) && (small s.length && (small n0.length && (small n1.length && (small n2.length && small n3.length)))) then k (Ex.exit (0 : Nat)) [AV.str s, AV.ptr 0 0, AV.bool b, AV.own 68, AV.int IntKind.i64 4, AV.int IntKind.i64 4] [some (Row.box false [AV.str z, AV.nl, AV.nl]), some c80] else none else none) (by kernel_rfl) ?_
      conv => zeta
      rw [← hk]
      refine Eq.trans (cond_t (and_t h4 h0)) ?_
      rw [h0, h1, h2, h3, h4]
      show (bif eqF n3 s then _ else _) = _
      cases eqF n3 s <;> rfl
    · skip
      refine Eq.trans (b := k (Ex.exit (0 : Nat)) [AV.str s, AV.ptr 0 0, AV.bool b, AV.own 68, AV.int IntKind.i64 4, AV.int IntKind.i64 4] [some (Row.box false [AV.str z, AV.nl, AV.nl]), some (Row.arr false (Sh.agg [Sh.str, Sh.other, Sh.other]) (53 : Nat) [AV.agg [AV.str n0, AV.fn (120 : Nat) [AV.ref [AV.int IntKind.u8 m0]], AV.fn (121 : Nat) []], AV.agg [AV.str n1, AV.fn (120 : Nat) [AV.ref [AV.int IntKind.u8 m1]], AV.fn (121 : Nat) []], AV.agg [AV.str n2, AV.fn (17 : Nat) [], AV.fn (79 : Nat) []], AV.agg [AV.str n3, AV.fn (16 : Nat) [], AV.fn (80 : Nat) []]] none)]) (by kernel_rfl) ?_
      rw [← hk]
      rfl
  · cases h
def F42 : List AV → Tr AV
  | [.str s] => .gd (small s.length)
      (.br (eqF s7b s) (.leaf (.tup [.agg [.str s7b, .fn 120 [.ref [.int .u8 127]], .fn 121 []], .bool true]))
      (.br (eqF s8b s) (.leaf (.tup [.agg [.str s8b, .fn 120 [.ref [.int .u8 255]], .fn 121 []], .bool true]))
      (.br (eqF s64 s) (.leaf (.tup [.agg [.str s64, .fn 17 [], .fn 79 []], .bool true]))
      (.br (eqF sqp s) (.leaf (.tup [.agg [.str sqp, .fn 16 [], .fn 80 []], .bool true]))
      (.leaf (.tup [.agg [.str [], .nl, .nl], .bool false]))))))
  | _ => .no
theorem ok42 : SumOK Tryz.prog 42 (ofT F42) ∧ SNat (ofT F42) := by
  refine fn1 (K := [(2, l42)]) (b := b42) (l := l42) g42 Tryz.func42 (by kernel_rfl) (by kernel_rfl) loop42 fun ρ avs k r h => ?_
  unfold F42 at h
  split at h
  · rename_i s
    obtain ⟨hc, hk⟩ := gd_some h
    refine Eq.trans (b := bif decide ((↑[AV.agg [AV.str s7b, AV.fn (120 : Nat) [AV.ref [AV.int IntKind.u8 127]], AV.fn (121 : Nat) []], AV.agg [AV.str s8b, AV.fn (120 : Nat) [AV.ref [AV.int IntKind.u8 255]], AV.fn (121 : Nat) []], AV.agg [AV.str s64, AV.fn (17 : Nat) [], AV.fn (79 : Nat) []], AV.agg [AV.str sqp, AV.fn (16 : Nat) [], AV.fn (80 : Nat) []]].length : Int) = (4 : Int) ∧ (0 : Int) ≤ (0 : Int) ∧ (0 : Int) ≤ (4 : Int)) && (small s.length && (small s7b.length && (small s8b.length && (small s64.length && small sqp.length)))) then bif decide ((0 : Int) ≤ (0 : Int)) && eqF s7b s then k (AV.tup [AV.agg [AV.str s7b, AV.fn (120 : Nat) [AV.ref [AV.int IntKind.u8 127]], AV.fn (121 : Nat) []], AV.bool true]) else bif decide ((0 : Int) ≤ (1 : Int)) && eqF s8b s then k (AV.tup [AV.agg [AV.str s8b, AV.fn (120 : Nat) [AV.ref [AV.int IntKind.u8 255]], AV.fn (121 : Nat) []], AV.bool true]) else bif decide ((0 : Int) ≤ (2 : Int)) && eqF s64 s then k (AV.tup [AV.agg [AV.str s64, AV.fn (17 : Nat) [], AV.fn (79 : Nat) []], AV.bool true]) else bif decide ((0 : Int) ≤ (3 : Int)) && eqF sqp s then k (AV.tup [AV.agg [AV.str sqp, AV.fn (16 : Nat) [], AV.fn (80 : Nat) []], AV.bool true]) else k (AV.tup [AV.agg [AV.str [], AV.nl, AV.nl], AV.bool false]) else none) (by kernel_rfl) ?_
    rw [← hk, hc]
    cases eqF s7b s <;> cases eqF s8b s <;> cases eqF s64 s <;> cases eqF sqp s <;> rfl
  · cases h
noncomputable def G18 : Env := { pure := [(42, ofT F42), (13, ofT F13), (15, ofT F15)] }
theorem g18 : GOK Tryz.prog G18 := GOK.also (GOK.also (GOK.also g0 ok15) ok13) ok42
def vaC (es : List AV) : Int := bif decide ((es.length : Int) > 12000) then 1 else 0
def vaI (es : List AV) : Int := bif decide ((es.length : Int) > 12000) then -1 else 0
def F18 : List AV → Tr AV
  | [.slv (.int .u8) es, .str s] => .gd (small s.length)
      (.br (eqF s7b s) (.leaf (.tup [.agg [.str s7b, .fn 120 [.ref [.int .u8 127]], .fn 121 []], .agg [.int .i64 (vaC es), .int .i64 (vaI es)]]))
      (.br (eqF s8b s) (.leaf (.tup [.agg [.str s8b, .fn 120 [.ref [.int .u8 255]], .fn 121 []], .agg [.int .i64 (vaC es), .int .i64 (vaI es)]]))
      (.br (eqF s64 s) (.leaf (.tup [.agg [.str s64, .fn 17 [], .fn 79 []], .agg [.int .i64 (vaC es), .int .i64 (vaI es)]]))
      (.br (eqF sqp s) (.leaf (.tup [.agg [.str sqp, .fn 16 [], .fn 80 []], .agg [.int .i64 (vaC es), .int .i64 (vaI es)]]))
      (.leaf (.tup [.agg [.str [], .nl, .nl], .agg [.int .i64 18, .int .i64 (-3)]]))))))
  | _ => .no
theorem ok18 : SumOK Tryz.prog 18 (ofT F18) ∧ SNat (ofT F18) := by
  refine fn0 g18 Tryz.func18 (by kernel_rfl) fun ρ avs k r h => ?_
  unfold F18 at h
  split at h
  · rename_i es s
    obtain ⟨hc, hk⟩ := gd_some h
    refine Eq.trans (b := have c80 := [AV.int IntKind.i64 1, AV.int IntKind.i64 (-1 : Int)]; have c81 := [AV.int IntKind.i64 0, AV.int IntKind.i64 0]; bif small s.length then bif eqF s7b s then bif decide ((↑es.length : Int) > (12000 : Int)) then k (AV.tup [AV.agg [AV.str s7b, AV.fn (120 : Nat) [AV.ref [AV.int IntKind.u8 127]], AV.fn (121 : Nat) []], AV.agg c80]) else k (AV.tup [AV.agg [AV.str s7b, AV.fn (120 : Nat) [AV.ref [AV.int IntKind.u8 127]], AV.fn (121 : Nat) []], AV.agg c81]) else bif eqF s8b s then bif decide ((↑es.length : Int) > (12000 : Int)) then k (AV.tup [AV.agg [AV.str s8b, AV.fn (120 : Nat) [AV.ref [AV.int IntKind.u8 255]], AV.fn (121 : Nat) []], AV.agg c80]) else k (AV.tup [AV.agg [AV.str s8b, AV.fn (120 : Nat) [AV.ref [AV.int IntKind.u8 255]], AV.fn (121 : Nat) []], AV.agg c81]) else bif eqF s64 s then bif decide ((↑es.length : Int) > (12000 : Int)) then k (AV.tup [AV.agg [AV.str s64, AV.fn (17 : Nat) [], AV.fn (79 : Nat) []], AV.agg c80]) else k (AV.tup [AV.agg [AV.str s64, AV.fn (17 : Nat) [], AV.fn (79 : Nat) []], AV.agg c81]) else bif eqF sqp s then bif decide ((↑es.length : Int) > (12000 : Int)) then k (AV.tup [AV.agg [AV.str sqp, AV.fn (16 : Nat) [], AV.fn (80 : Nat) []], AV.agg c80]) else k (AV.tup [AV.agg [AV.str sqp, AV.fn (16 : Nat) [], AV.fn (80 : Nat) []], AV.agg c81]) else k (AV.tup [AV.agg [AV.str [], AV.nl, AV.nl], AV.agg [AV.int IntKind.i64 18, AV.int IntKind.i64 (-3 : Int)]]) else none) (by kernel_rfl) ?_
    conv => zeta
    rw [← hk, hc]
    unfold vaC vaI
    cases eqF s7b s <;> cases eqF s8b s <;> cases eqF s64 s <;> cases eqF sqp s <;> cases decide ((es.length : Int) > 12000) <;> rfl
  · cases h
noncomputable def G6 : Env := { pure := [(18, ofT F18), (19, ofT F19), (120, ofT F120), (16, ofT F16), (17, ofT F17)] }
theorem g6 : GOK Tryz.prog G6 := GOK.also (GOK.also (GOK.also (GOK.also (GOK.also g0 ok17) ok16) ok120) ok19) ok18
def kd (s : List UInt8) : Nat := bif eqF s7b s then 0 else bif eqF s8b s then 1 else bif eqF s64 s then 2 else bif eqF sqp s then 3 else 4
def enV (es : List AV) (s : List UInt8) : List AV := bif decide ((es.length : Int) > 12000) then [] else match kd s with
  | 0 => p7V es 127
  | 1 => p7V es 255
  | 2 => b64E es
  | 3 => (q16 es 0).1
  | _ => []
def enC (es : List AV) (s : List UInt8) : Int := match kd s with
  | 0 => bif decide ((es.length : Int) > 12000) then 1 else p7C es 127
  | 1 => bif decide ((es.length : Int) > 12000) then 1 else p7C es 255
  | 2 => vaC es
  | 3 => vaC es
  | _ => 18
def enI (es : List AV) (s : List UInt8) : Int := match kd s with
  | 0 => bif decide ((es.length : Int) > 12000) then -1 else p7I es 127
  | 1 => bif decide ((es.length : Int) > 12000) then -1 else p7I es 255
  | 2 => vaI es
  | 3 => vaI es
  | _ => -3
def F6 : List AV → Tr AV
  | [.slv (.int .u8) es, .str s] => .gd (small s.length && (small es.length && es.all bE)) (.leaf (.tup [.slv (.int .u8) (enV es s), .agg [.int .i64 (enC es s), .int .i64 (enI es s)]]))
  | _ => .no
theorem ok6 : SumOK Tryz.prog 6 (ofT F6) ∧ SNat (ofT F6) := by
  refine fn0 g6 Tryz.func6 (by kernel_rfl) fun ρ avs k r h => ?_
  unfold F6 at h
  split at h
  · rename_i es s
    obtain ⟨hc, hk⟩ := gd_some h
    refine Eq.trans (b := have c80 := (AV.tup [AV.slv (Sh.int IntKind.u8) [], AV.agg [AV.int IntKind.i64 (vaC es), AV.int IntKind.i64 (vaI es)]]); bif small s.length then bif eqF s7b s then bif vaC es != (0 : Int) then k c80 else bif decide (es.length ≤ (1000000 : Nat)) then k (AV.tup [AV.slv (Sh.int IntKind.u8) (p7V es (127 : Int)), AV.agg [AV.int IntKind.i64 (p7C es (127 : Int)), AV.int IntKind.i64 (p7I es (127 : Int))]]) else none else bif eqF s8b s then bif vaC es != (0 : Int) then k c80 else bif decide (es.length ≤ (1000000 : Nat)) then k (AV.tup [AV.slv (Sh.int IntKind.u8) (p7V es (255 : Int)), AV.agg [AV.int IntKind.i64 (p7C es (255 : Int)), AV.int IntKind.i64 (p7I es (255 : Int))]]) else none else bif eqF s64 s then bif vaC es != (0 : Int) then k c80 else bif small es.length && es.all bE then bif decide ((↑es.length : Int) > (12000 : Int)) then k (AV.tup [AV.slv (Sh.int IntKind.u8) [], AV.agg [AV.int IntKind.i64 1, AV.int IntKind.i64 (-1 : Int)]]) else k (AV.tup [AV.slv (Sh.int IntKind.u8) (b64E es), AV.agg [AV.int IntKind.i64 0, AV.int IntKind.i64 0]]) else none else bif eqF sqp s then bif vaC es != (0 : Int) then k c80 else bif small es.length && es.all bE then bif decide ((↑es.length : Int) > (12000 : Int)) then k (AV.tup [AV.slv (Sh.int IntKind.u8) [], AV.agg [AV.int IntKind.i64 1, AV.int IntKind.i64 (-1 : Int)]]) else k (AV.tup [AV.slv (Sh.int IntKind.u8) (q16 es (0 : Int)).fst, AV.agg [AV.int IntKind.i64 0, AV.int IntKind.i64 0]]) else none else k (AV.tup [AV.slv (Sh.int IntKind.u8) [], AV.agg [AV.int IntKind.i64 18, AV.int IntKind.i64 (-3 : Int)]]) else none) (by kernel_rfl) ?_
    conv => zeta
    rw [← hk]
    obtain ⟨h1, h2⟩ := (Bool.and_eq_true _ _).mp hc
    rw [h1, h2]
    unfold enV enC enI kd vaC vaI
    cases hd : decide ((es.length : Int) > 12000)
    · have hl := of_decide_eq_false hd
      have hm : decide (es.length ≤ 1000000) = true := decide_eq_true (by omega)
      rw [hm]
      cases eqF s7b s <;> cases eqF s8b s <;> cases eqF s64 s <;> cases eqF sqp s <;> rfl
    · cases eqF s7b s <;> cases eqF s8b s <;> cases eqF s64 s <;> cases eqF sqp s <;> rfl
  · cases h
noncomputable def G88 : Env := { pure := [(18, ofT F18), (19, ofT F19), (121, ofT F121), (79, ofT F79), (80, ofT F80)] }
theorem g88 : GOK Tryz.prog G88 := GOK.also (GOK.also (GOK.also (GOK.also (GOK.also g0 ok80) ok79) ok121) ok19) ok18
def deV (es : List AV) (s : List UInt8) : List AV := bif decide ((es.length : Int) > 12000) then [] else match kd s with
  | 0 => es
  | 1 => es
  | 2 => (bD es 0 0).1
  | 3 => qD es
  | _ => []
def deC (es : List AV) (s : List UInt8) : Int := match kd s with
  | 4 => 18
  | _ => vaC es
def deI (es : List AV) (s : List UInt8) : Int := match kd s with
  | 4 => -3
  | _ => vaI es
def F88 : List AV → Tr AV
  | [.slv (.int .u8) es, .str s] => .gd (small s.length && (small es.length && es.all bE)) (.leaf (.tup [.slv (.int .u8) (deV es s), .agg [.int .i64 (deC es s), .int .i64 (deI es s)]]))
  | _ => .no
theorem ok88 : SumOK Tryz.prog 88 (ofT F88) ∧ SNat (ofT F88) := by
  refine fn0 g88 Tryz.func88 (by kernel_rfl) fun ρ avs k r h => ?_
  unfold F88 at h
  split at h
  · rename_i es s
    obtain ⟨hc, hk⟩ := gd_some h
    refine Eq.trans (b := have c80 := (AV.tup [AV.slv (Sh.int IntKind.u8) [], AV.agg [AV.int IntKind.i64 (vaC es), AV.int IntKind.i64 (vaI es)]]); have c81 := [AV.int IntKind.i64 0, AV.int IntKind.i64 0]; bif small s.length then bif eqF s7b s then bif vaC es != (0 : Int) then k c80 else bif decide (es.length ≤ (100000000000 : Nat)) then k (AV.tup [AV.slv (Sh.int IntKind.u8) es, AV.agg c81]) else none else bif eqF s8b s then bif vaC es != (0 : Int) then k c80 else bif decide (es.length ≤ (100000000000 : Nat)) then k (AV.tup [AV.slv (Sh.int IntKind.u8) es, AV.agg c81]) else none else bif eqF s64 s then bif vaC es != (0 : Int) then k c80 else bif small es.length && es.all bE then bif decide ((↑es.length : Int) > (24000 : Int)) then k (AV.tup [AV.slv (Sh.int IntKind.u8) [], AV.agg [AV.int IntKind.i64 1, AV.int IntKind.i64 (-1 : Int)]]) else k (AV.tup [AV.slv (Sh.int IntKind.u8) (bD es (0 : Nat) (0 : Nat)).fst, AV.agg c81]) else none else bif eqF sqp s then bif vaC es != (0 : Int) then k c80 else bif small es.length && es.all bE then bif decide ((↑es.length : Int) > (48000 : Int)) then k (AV.tup [AV.slv (Sh.int IntKind.u8) [], AV.agg [AV.int IntKind.i64 1, AV.int IntKind.i64 (-1 : Int)]]) else k (AV.tup [AV.slv (Sh.int IntKind.u8) (qD es), AV.agg c81]) else none else k (AV.tup [AV.slv (Sh.int IntKind.u8) [], AV.agg [AV.int IntKind.i64 18, AV.int IntKind.i64 (-3 : Int)]]) else none) (by kernel_rfl) ?_
    conv => zeta
    rw [← hk]
    obtain ⟨h1, h2⟩ := (Bool.and_eq_true _ _).mp hc
    rw [h1, h2]
    unfold deV deC deI kd vaC vaI
    cases hd : decide ((es.length : Int) > 12000)
    · have hl := of_decide_eq_false hd
      have hm : decide (es.length ≤ 100000000000) = true := decide_eq_true (by omega)
      have h24 : decide ((es.length : Int) > 24000) = false := decide_eq_false (by omega)
      have h48 : decide ((es.length : Int) > 48000) = false := decide_eq_false (by omega)
      rw [hm, h24, h48]
      cases eqF s7b s <;> cases eqF s8b s <;> cases eqF s64 s <;> cases eqF sqp s <;> rfl
    · cases eqF s7b s <;> cases eqF s8b s <;> cases eqF s64 s <;> cases eqF sqp s <;> rfl
  · cases h
noncomputable def G5 : Env := { pure := [(14, ofT F14), (13, ofT F13), (15, ofT F15), (16, ofT F16), (17, ofT F17)] }
theorem g5 : GOK Tryz.prog G5 := GOK.also (GOK.also (GOK.also (GOK.also (GOK.also g0 ok17) ok16) ok15) ok13) ok14
def chN (es : List AV) : List UInt8 := bif decide ((es.length : Int) > 12000) then [] else bif decide ((wg es 127 0 0).1 < 0) then s7b else bif decide (((b64E es).length : Int) < (q16 es 0).1.length) then s64 else sqp
def F5 : List AV → Tr AV
  | [.slv (.int .u8) es] => .gd (small es.length && es.all bE) (.leaf (.tup [.str (chN es), .agg [.int .i64 (vaC es), .int .i64 (vaI es)]]))
  | _ => .no
theorem ok5 : SumOK Tryz.prog 5 (ofT F5) ∧ SNat (ofT F5) := by
  refine fn0 g5 Tryz.func5 (by kernel_rfl) fun ρ avs k r h => ?_
  unfold F5 at h
  split at h
  · rename_i es
    obtain ⟨hc, hk⟩ := gd_some h
    refine Eq.trans (b := have c80 := [AV.int IntKind.i64 0, AV.int IntKind.i64 0]; bif decide ((↑es.length : Int) > (12000 : Int)) then k (AV.tup [AV.str [], AV.agg [AV.int IntKind.i64 1, AV.int IntKind.i64 (-1 : Int)]]) else bif small es.length then bif decide ((wg es (127 : Int) (0 : Int) (0 : Nat)).fst < (0 : Int)) then k (AV.tup [AV.str s7b, AV.agg c80]) else bif small es.length && es.all bE then bif decide ((↑es.length : Int) > (12000 : Int)) then bif small es.length && es.all bE then bif decide ((↑es.length : Int) > (12000 : Int)) then k (AV.tup [AV.str sqp, AV.agg c80]) else k (AV.tup [AV.str sqp, AV.agg c80]) else none else bif small es.length && es.all bE then bif decide ((↑es.length : Int) > (12000 : Int)) then bif decide ((↑([] : List AV).length : Int) < (↑(q16 es (0 : Int)).fst.length : Int)) then k (AV.tup [AV.str s64, AV.agg c80]) else k (AV.tup [AV.str sqp, AV.agg c80]) else bif decide ((↑(b64E es).length : Int) < (↑(q16 es (0 : Int)).fst.length : Int)) then k (AV.tup [AV.str s64, AV.agg c80]) else k (AV.tup [AV.str sqp, AV.agg c80]) else none else none else none) (by kernel_rfl) ?_
    conv => zeta
    rw [← hk]
    obtain ⟨h1, h2⟩ := (Bool.and_eq_true _ _).mp hc
    rw [hc, h1]
    unfold chN vaC vaI
    cases hd : decide ((es.length : Int) > 12000)
    · refine Eq.trans (cond_f rfl) (Eq.trans (cond_t rfl) ?_)
      cases decide ((wg es 127 0 0).1 < 0)
      · refine Eq.trans (cond_f rfl) (Eq.trans (cond_t rfl) (Eq.trans (cond_f rfl) (Eq.trans (cond_t rfl) (Eq.trans (cond_f rfl) ?_))))
        cases decide (((b64E es).length : Int) < (q16 es 0).1.length) <;> rfl
      · rfl
    · rfl
  · cases h
end Go.Proofs.YtpmlhkoianekfaaGreatDoor


namespace Go.Ev
theorem has_int {k : IntKind} {v : AV} (h : has1 (.int k) v = true) : ∃ n, v = .int k n := by
  cases v <;> simp [has1] at h
  rename_i k' n
  exact ⟨n, by rw [h]⟩
theorem has_str {v : AV} (h : has1 .str v = true) : ∃ s, v = .str s := by
  cases v <;> simp [has1] at h
  exact ⟨_, rfl⟩
theorem hass_cons {s : Sh} {l : List Sh} {cs : List AV} (h : hass (s :: l) cs = true) : ∃ c cs', cs = c :: cs' ∧ has1 s c = true ∧ hass l cs' = true := by
  cases cs with
  | nil => simp [hass] at h
  | cons c cs' => simp only [hass, Bool.and_eq_true] at h; exact ⟨c, cs', rfl, h.1, h.2⟩
theorem hass_nil {cs : List AV} (h : hass [] cs = true) : cs = [] := by
  cases cs with
  | nil => rfl
  | cons c cs' => simp [hass] at h
theorem has_agg {l : List Sh} {v : AV} (h : hasSh (.agg l) v = true) : ∃ cs, v = .agg cs ∧ hass l cs = true := by
  cases v <;> simp [hasSh] at h
  exact ⟨_, rfl, h⟩
theorem Fit.agg_inv {cs : List AV} (h : Fit (.agg cs)) : ∀ c ∈ cs, Fit c := by
  cases h with
  | agg _ h => exact h
theorem Fit.str_inv {s : List UInt8} (h : Fit (.str s)) : s.length ≤ 140737488351232 := by
  cases h with
  | str _ h => exact h
theorem has_sliceR {s : Sh} {v : AV} (h : has1 (.slice s) v = true) (hf : Fit v) : ∃ es, v = .slv s es ∧ es.length ≤ 140737488351232 ∧ (∀ e ∈ es, hasSh s e = true) ∧ ∀ e ∈ es, Fit e := by
  cases hf with
  | slv s' es hm hs hfe =>
    simp only [has1] at h
    have e := Sh.beq_eq _ _ h
    subst e
    exact ⟨es, rfl, hm, hs, hfe⟩
  | _ => simp [has1] at h
theorem Fit.int_inv {k : IntKind} {n : Int} (h : Fit (.int k n)) : (Lit.int k n).wf = true := by
  cases h with
  | int _ _ h => exact h
theorem hasAll_cons {s : Sh} {l : List Sh} {cs : List AV} (h : hasAll (s :: l) cs = true) : ∃ c cs', cs = c :: cs' ∧ hasSh s c = true ∧ hasAll l cs' = true := by
  cases cs with
  | nil => simp [hasAll] at h
  | cons c cs' => simp only [hasAll, Bool.and_eq_true] at h; exact ⟨c, cs', rfl, h.1, h.2⟩
theorem hasAll_nil {cs : List AV} (h : hasAll [] cs = true) : cs = [] := by
  cases cs with
  | nil => rfl
  | cons c cs' => simp [hasAll] at h
end Go.Ev
namespace Go.Proofs.YtpmlhkoianekfaaGreatDoor
open Go.Ev
def bk (H : Type) : BK H := ⟨Rows.uptoBulk, Rows.uptoBulkAll, fun _ => rfl, fun l => by cases l <;> simp [Rows.uptoBulk], Nat.le_refl _, fun _ => rfl, fun _ _ => rfl, rfl, fun _ _ => rfl⟩
theorem own : ownKnob Tryz.prog.godebug = none := by kernel_rfl
end Go.Proofs.YtpmlhkoianekfaaGreatDoor


namespace Go.Proofs.YtpmlhkoianekfaaGreatDoor
open Go.Ev
def fE (e : AV) : AV := .agg [.str (fN e), .str (fV e)]
theorem by34 : Tryz.prog.bytesOf 34 ≤ 1000 := of_decide_eq_true (by kernel_rfl)
theorem canF {e : AV} (h : hasSh fsh e = true) : fE e = e := by
  obtain ⟨cs, rfl, h1⟩ := has_agg h
  obtain ⟨c1, cs, rfl, a1, h1⟩ := hass_cons h1
  obtain ⟨c2, cs, rfl, a2, h1⟩ := hass_cons h1
  obtain rfl := hass_nil h1
  obtain ⟨x1, rfl⟩ := has_str a1
  obtain ⟨x2, rfl⟩ := has_str a2
  rfl
theorem okF_fE {e : AV} (h : okF e = true) : okF (fE e) = true := h
theorem okF_at {es : List AV} (h : es.all okF = true) {j : Nat} (hj : j < es.length) : okF (es.getD j .unk) = true := List.all_eq_true.1 h _ (by rw [getD_eq hj]; exact List.getElem_mem hj)
theorem okF_set {es : List AV} (h : es.all okF = true) (i : Nat) {x : AV} (hx : okF x = true) : (es.set i x).all okF = true := List.all_eq_true.2 fun y hy => by
  rcases List.mem_or_eq_of_mem_set hy with h' | h'
  · exact List.all_eq_true.1 h y h'
  · rw [h']; exact hx
def eqE (n : List UInt8) (e : AV) : Bool := eqF (fN e) n
noncomputable def G23 : Env := { pure := [(23, evF Tryz.prog { pure := [(24, ofT F24)] } [] Tryz.f23)] }
theorem g23 : GOK Tryz.prog G23 := GOK.also g0 (inl (GOK.also g0 ok24) Tryz.func23 (by kernel_rfl))
noncomputable def b45 : Code := ((Tryz.f45.body.map loopsOf).getD []).headD .skip
def eqN (n : List UInt8) (es : List AV) (i : Nat) : Bool := eqE n (es.getD i .unk)
def L45 : List AV → List (Option Row) → Tr LOut
  | [.slv (.agg [.str, .str]) es, .fn 23 [.ref [.str x]], .int .i64 z, .int .i64 n, .int .i64 i], [] =>
    .gd (cnt n i es.length && (es.all okF && small x.length)) (sT (eqN x es) es.length (fun q => .leaf (.ret, [.slv fsh es, .fn 23 [.ref [.str x]], .int .i64 (q : Nat), .int .i64 n, .int .i64 (q : Nat)], [])) (.leaf (.exit 0, [.slv fsh es, .fn 23 [.ref [.str x]], .int .i64 z, .int .i64 n, .int .i64 es.length], [])) i.toNat)
  | _, _ => .no
def l45 : Ev.Loop := ⟨{ len := 19, slots := [0, 1, 4, 7, 8] }, ofL L45⟩
def μ45 (vs : List AV) (_ : List (Option Row)) : Nat := match vs with
  | [_, _, _, .int _ n, .int _ i] => (n - i).toNat
  | _ => 0
theorem loop45 : LoopOK Tryz.prog G23 [(2, l45)] b45 l45 := by
  refine loopT g23.natOK rfl (KOK.nil (by kernel_rfl)) μ45 (fun ρ vs rs k r h => ?_)
  unfold L45 at h
  split at h
  · rename_i es x z n i
    obtain ⟨hc, hk⟩ := gd_some h
    simp only [Bool.and_eq_true] at hc
    obtain ⟨hc, hall, hx⟩ := hc
    obtain ⟨rfl, hs, j, rfl, hj⟩ := cnt_spec hc
    rw [Int.toNat_natCast] at hk
    refine Eq.trans (b := bif decide ((↑j : Int) < (↑es.length : Int)) then bif inb (↑j : Int) es.length then bif small (fN (es.getD j AV.unk)).length && small x.length then bif eqF (fN (es.getD j AV.unk)) x then k Ex.ret [AV.slv (Sh.agg [Sh.str, Sh.str]) es, AV.fn (23 : Nat) [AV.ref [AV.str x]], AV.int IntKind.i64 (↑j : Int), AV.int IntKind.i64 (↑es.length : Int), AV.int IntKind.i64 (↑j : Int)] [] else bif decide (((↑es.length : Int) - IntKind.i64.wrap ((↑j : Int) + (1 : Int))).toNat < ((↑es.length : Int) - (↑j : Int)).toNat) then bif cnt (↑es.length : Int) (IntKind.i64.wrap ((↑j : Int) + (1 : Int))) es.length && (es.all okF && small x.length) then bif (findN (eqN x es) es.length (IntKind.i64.wrap ((↑j : Int) + (1 : Int))).toNat).isSome then k Ex.ret [AV.slv (Sh.agg [Sh.str, Sh.str]) es, AV.fn (23 : Nat) [AV.ref [AV.str x]], AV.int IntKind.i64 (↑((findN (eqN x es) es.length (IntKind.i64.wrap ((↑j : Int) + (1 : Int))).toNat).getD (0 : Nat)) : Int), AV.int IntKind.i64 (↑es.length : Int), AV.int IntKind.i64 (↑((findN (eqN x es) es.length (IntKind.i64.wrap ((↑j : Int) + (1 : Int))).toNat).getD (0 : Nat)) : Int)] [] else k (Ex.exit (0 : Nat)) [AV.slv (Sh.agg [Sh.str, Sh.str]) es, AV.fn (23 : Nat) [AV.ref [AV.str x]], AV.int IntKind.i64 z, AV.int IntKind.i64 (↑es.length : Int), AV.int IntKind.i64 (↑es.length : Int)] [] else none else none else none else none else k (Ex.exit (0 : Nat)) [AV.slv (Sh.agg [Sh.str, Sh.str]) es, AV.fn (23 : Nat) [AV.ref [AV.str x]], AV.int IntKind.i64 z, AV.int IntKind.i64 (↑es.length : Int), AV.int IntKind.i64 (↑j : Int)] []) (by kernel_rfl) ?_
    rw [← hk]
    by_cases hlt : j < es.length
    · obtain ⟨e1, e2, e3, e4, e5⟩ := cnt_facts hlt hs
      have hok := okF_at hall hlt
      have hok1 : small (fN (es.getD j .unk)).length = true := ((Bool.and_eq_true _ _).mp hok).1
      rw [sT_step _ _ _ _ _ hlt]
      simp only [e1, e2, e3, e4, e5, hx, hall, hok1, Bool.and_true, cond_true, Int.toNat_natCast]
      rfl
    · obtain rfl : j = es.length := by omega
      rw [decide_eq_false (by omega), sT_end]
      rfl
  · cases h
def F45 : List AV → Tr AV
  | [.slv (.agg [.str, .str]) es, .fn 23 [.ref [.str x]]] => .gd (small es.length && (es.all okF && small x.length)) (.leaf (.int .i64 (idxZ (findN (eqN x es) es.length 0))))
  | _ => .no
theorem idxZ_br {α : Type} (o : Option Nat) (k : AV → α) : (bif o.isSome then k (.int .i64 ((o.getD 0 : Nat) : Int)) else k (.int .i64 (-1))) = k (.int .i64 (idxZ o)) := by cases o <;> rfl
theorem ok45 : SumOK Tryz.prog 45 (ofT F45) ∧ SNat (ofT F45) := by
  refine fn1 (K := [(2, l45)]) (b := b45) (l := l45) g23 Tryz.func45 (by kernel_rfl) (by kernel_rfl) loop45 fun ρ avs k r h => ?_
  unfold F45 at h
  split at h
  · rename_i es x
    obtain ⟨hc, hk⟩ := gd_some h
    obtain ⟨hs, hc⟩ := (Bool.and_eq_true _ _).mp hc
    refine Eq.trans (b := bif cnt (↑es.length : Int) (0 : Int) es.length && (es.all okF && small x.length) then bif (findN (eqN x es) es.length (0 : Nat)).isSome then k (AV.int IntKind.i64 (↑((findN (eqN x es) es.length (0 : Nat)).getD (0 : Nat)) : Int)) else k (AV.int IntKind.i64 (-1 : Int)) else none) (by kernel_rfl) ?_
    rw [← hk]
    exact Eq.trans (cond_t (and_t (cnt_zero hs) hc)) (idxZ_br _ k)
  · cases h
noncomputable def G21 : Env := { pure := (45, ofT F45) :: G23.pure }
theorem g21 : GOK Tryz.prog G21 := GOK.also g23 ok45
noncomputable def b21 : Code := ((Tryz.f21.body.map loopsOf).getD []).headD .skip
def L21 : List AV → List (Option Row) → Tr LOut
  | [.own p, .fn 23 [.ptr q 0], .int .i64 i, .int .i64 j], [some (.arr false (.agg [.str, .str]) e es sp), some (.box false [.str x])] =>
    .gd (Nat.beq p PID && (Nat.beq q (PID + 1) && (decide (0 ≤ i ∧ i < j ∧ j ≤ es.length ∧ es.length ≤ 1000000) && (es.all okF && small x.length))))
      (.leaf (.exit 0, [.own PID, .fn 23 [.ptr (PID + 1) 0], .int .i64 (delN (eqE x) fE (es.length - j.toNat) es i.toNat j.toNat).2, .int .i64 es.length], [some (.arr false fsh e (delN (eqE x) fE (es.length - j.toNat) es i.toNat j.toNat).1 sp), some (.box false [.str x])]))
  | _, _ => .no
def l21 : Ev.Loop := ⟨{ len := 42, slots := [0, 1, 5, 6], rows := [PID, PID + 1] }, ofL L21⟩
def μ21 (vs : List AV) (rs : List (Option Row)) : Nat := match vs, rs with
  | [_, _, _, .int _ j], [some (.arr _ _ _ es _), _] => ((es.length : Int) - j).toNat
  | _, _ => 0
theorem loop21 : LoopOK Tryz.prog G21 [(5, l21)] b21 l21 := by
  refine loopT g21.natOK rfl (KOK.nil (by kernel_rfl)) μ21 (fun ρ vs rs k r h => ?_)
  unfold L21 at h
  split at h
  · rename_i p q i' j' e es sp x
    obtain ⟨hc, hk⟩ := gd_some h
    simp only [Bool.and_eq_true] at hc
    obtain ⟨c1, c2, c3, hall, hx⟩ := hc
    obtain ⟨c3, c4, c5, c6⟩ := of_decide_eq_true c3
    obtain rfl := Nat.eq_of_beq_eq_true c1
    obtain rfl := Nat.eq_of_beq_eq_true c2
    obtain ⟨i, rfl⟩ : ∃ i : Nat, i' = i := ⟨i'.toNat, by omega⟩
    obtain ⟨j, rfl⟩ : ∃ j : Nat, j' = j := ⟨j'.toNat, by omega⟩
    simp only [Int.toNat_natCast] at hk
    refine Eq.trans (b := have c80 := (es.set i (mkAV (Sh.agg [Sh.str, Sh.str]) [AV.str (fN (es.getD j AV.unk)), AV.str (fV (es.getD j AV.unk))])); have c81 := (IntKind.i64.wrap ((↑j : Int) + (1 : Int))); bif decide ((↑j : Int) < (↑es.length : Int)) then bif inb (↑j : Int) es.length then bif decide (j < es.length) then bif small (fN (es.getD j AV.unk)).length && small x.length then bif !eqF (fN (es.getD j AV.unk)) x then bif inb (↑i : Int) es.length then bif decide (i < es.length) then bif decide (((↑c80.length : Int) - IntKind.i64.wrap ((↑j : Int) + (1 : Int))).toNat < ((↑es.length : Int) - (↑j : Int)).toNat) then bif PID.beq PID && ((PID + (1 : Nat)).beq (PID + (1 : Nat)) && (decide ((0 : Int) ≤ IntKind.i64.wrap ((↑i : Int) + (1 : Int)) ∧ IntKind.i64.wrap ((↑i : Int) + (1 : Int)) < IntKind.i64.wrap ((↑j : Int) + (1 : Int)) ∧ IntKind.i64.wrap ((↑j : Int) + (1 : Int)) ≤ (↑c80.length : Int) ∧ c80.length ≤ (1000000 : Nat)) && (c80.all okF && small x.length))) then k (Ex.exit (0 : Nat)) [AV.own 1125899906842624, AV.fn (23 : Nat) [AV.ptr 1125899906842625 0], AV.int IntKind.i64 (↑(delN (eqE x) fE (c80.length - c81.toNat) c80 (IntKind.i64.wrap ((↑i : Int) + (1 : Int))).toNat c81.toNat).snd : Int), AV.int IntKind.i64 (↑c80.length : Int)] [some (Row.arr false (Sh.agg [Sh.str, Sh.str]) e (delN (eqE x) fE (c80.length - c81.toNat) c80 (IntKind.i64.wrap ((↑i : Int) + (1 : Int))).toNat c81.toNat).fst sp), some (Row.box false [AV.str x])] else none else none else none else none else bif decide (((↑es.length : Int) - IntKind.i64.wrap ((↑j : Int) + (1 : Int))).toNat < ((↑es.length : Int) - (↑j : Int)).toNat) then bif PID.beq PID && ((PID + (1 : Nat)).beq (PID + (1 : Nat)) && (decide ((0 : Int) ≤ (↑i : Int) ∧ (↑i : Int) < IntKind.i64.wrap ((↑j : Int) + (1 : Int)) ∧ IntKind.i64.wrap ((↑j : Int) + (1 : Int)) ≤ (↑es.length : Int) ∧ es.length ≤ (1000000 : Nat)) && (es.all okF && small x.length))) then k (Ex.exit (0 : Nat)) [AV.own 1125899906842624, AV.fn (23 : Nat) [AV.ptr 1125899906842625 0], AV.int IntKind.i64 (↑(delN (eqE x) fE (es.length - c81.toNat) es i c81.toNat).snd : Int), AV.int IntKind.i64 (↑es.length : Int)] [some (Row.arr false (Sh.agg [Sh.str, Sh.str]) e (delN (eqE x) fE (es.length - c81.toNat) es i c81.toNat).fst sp), some (Row.box false [AV.str x])] else none else none else none else none else none else k (Ex.exit (0 : Nat)) [AV.own 1125899906842624, AV.fn (23 : Nat) [AV.ptr 1125899906842625 0], AV.int IntKind.i64 (↑i : Int), AV.int IntKind.i64 (↑j : Int)] [some (Row.arr false (Sh.agg [Sh.str, Sh.str]) e es sp), some (Row.box false [AV.str x])]) (by kernel_rfl) ?_
    conv => zeta
    rw [← hk]
    by_cases hlt : j < es.length
    · have w1 : IntKind.i64.wrap ((j : Int) + 1) = ((j + 1 : Nat) : Int) := by rw [wrap_mid _ (by omega) (by omega)]; omega
      have w2 : IntKind.i64.wrap ((i : Int) + 1) = ((i + 1 : Nat) : Int) := by rw [wrap_mid _ (by omega) (by omega)]; omega
      have hd := delN_succ (eqE x) fE (es.length - (j + 1)) es i j
      rw [show es.length - (j + 1) + 1 = es.length - j from by omega] at hd
      have hok := okF_at hall hlt
      have hok1 : small (fN (es.getD j .unk)).length = true := ((Bool.and_eq_true _ _).mp hok).1
      rw [decide_eq_true (by omega : (j : Int) < es.length), inb_true (by omega) (by omega), decide_eq_true hlt, inb_true (by omega : (0 : Int) ≤ i) (by omega : (i : Int) < es.length), decide_eq_true (by omega : i < es.length), w1, w2, hd]
      simp only [cond_true, Int.toNat_natCast, List.length_set, hok1, hx, Bool.true_and]
      show (bif !eqE x (es.getD j .unk) then _ else _) = _
      cases eqE x (es.getD j .unk)
      · simp only [cond_true, cond_false, Bool.not_false]
        refine Eq.trans (cond_t (decide_eq_true (by omega))) (Eq.trans (cond_t (and_t (Nat.beq_refl _) (and_t (Nat.beq_refl _) (and_t (decide_eq_true (by omega)) (and_t (okF_set hall i (okF_fE hok)) rfl))))) ?_)
        rfl
      · simp only [cond_true, cond_false, Bool.not_true]
        refine Eq.trans (cond_t (decide_eq_true (by omega))) (Eq.trans (cond_t (and_t (Nat.beq_refl _) (and_t (Nat.beq_refl _) (and_t (decide_eq_true (by omega)) (and_t hall rfl))))) ?_)
        rfl
    · obtain rfl : j = es.length := by omega
      rw [decide_eq_false (by omega), show es.length - es.length = 0 from by omega]
      rfl
  · cases h
def F21 : List AV → List Row → Tr XOut
  | [.own p, .fn 23 [.ptr q 0]], [.arr false (.agg [.str, .str]) 34 es _, .box false [.str x]] =>
    .gd (Nat.beq p PID && (Nat.beq q (PID + 1) && (decide (es.length ≤ 1000000) && (es.all (hasSh fsh) && (es.all okF && small x.length))))) (.leaf (.own RID, [none, some (.box false [.str x])], [.arr false fsh 34 (es.filter fun e => !eqE x e) none]))
  | _, _ => .no
theorem ok21 : XOK Tryz.prog 21 (ofX F21) ∧ XNat (ofX F21) := by
  refine ⟨xsum1 (K := [(5, l21)]) (H := [(4, 9999, 34)]) (b := b21) (l := l21) g21 Tryz.func21 (by kernel_rfl) (by kernel_rfl) loop21 fun ρ avs rows k r h => ?_, xnat_ofX _⟩
  change (F21 avs rows).run _ = some r at h
  unfold F21 at h
  split at h
  · rename_i p q es csp x
    obtain ⟨hc, hk⟩ := gd_some h
    simp only [Bool.and_eq_true] at hc
    obtain ⟨c1, c2, c3, c4, c5, c6⟩ := hc
    have c3 := of_decide_eq_true c3
    have hca : ∀ x ∈ es, fE x = x := fun x hx => canF (List.all_eq_true.1 c4 x hx)
    obtain rfl := Nat.eq_of_beq_eq_true c1
    obtain rfl := Nat.eq_of_beq_eq_true c2
    refine ⟨by simp, fun rows' hsp => ?_⟩
    obtain ⟨sp, rfl⟩ : ∃ sp, rows' = [.arr false fsh 34 es (some sp), .box false [.str x]] := by
      match rows', hsp with
      | [r1, r2], ⟨⟨sp, h1, _⟩, h2, _⟩ => exact ⟨sp, by rw [h1, h2]; rfl⟩
    refine Eq.trans (b := have c82 := (findN (eqN x es) es.length (0 : Nat)); have c80 := (delN (eqE x) fE (es.length - (IntKind.i64.wrap (idxZ c82 + (1 : Int))).toNat) es (idxZ c82).toNat (IntKind.i64.wrap (idxZ c82 + (1 : Int))).toNat); have c81 := (List.take (↑c80.snd : Int).toNat c80.fst ++ (List.replicate ((↑c80.fst.length : Int).toNat - (↑c80.snd : Int).toNat) (zeroE Tryz.prog (34 : Nat)) ++ List.drop ((↑c80.snd : Int).toNat + ((↑c80.fst.length : Int).toNat - (↑c80.snd : Int).toNat)) c80.fst)); bif small es.length && (es.all okF && small x.length) then bif idxZ c82 == (-1 : Int) then k (AV.own 2251799813685248) [none, some (Row.box false [AV.str x])] [Row.arr false (Sh.agg [Sh.str, Sh.str]) (34 : Nat) es none] else bif PID.beq PID && ((PID + (1 : Nat)).beq (PID + (1 : Nat)) && (decide ((0 : Int) ≤ idxZ c82 ∧ idxZ c82 < IntKind.i64.wrap (idxZ c82 + (1 : Int)) ∧ IntKind.i64.wrap (idxZ c82 + (1 : Int)) ≤ (↑es.length : Int) ∧ es.length ≤ (1000000 : Nat)) && (es.all okF && small x.length))) then bif slb (↑c80.snd : Int) (↑c80.fst.length : Int) c80.fst.length then bif decide ((↑c80.snd : Int).toNat + ((↑c80.fst.length : Int).toNat - (↑c80.snd : Int).toNat) ≤ c80.fst.length) then bif slb (0 : Int) (↑c80.snd : Int) c81.length then bif ((↑c80.snd : Int).toNat - Int.toNat (0 : Int)).ble c81.length then k (AV.own 2251799813685248) [none, some (Row.box false [AV.str x])] [Row.arr false (Sh.agg [Sh.str, Sh.str]) (34 : Nat) (List.take ((↑c80.snd : Int).toNat - Int.toNat (0 : Int)) c81) none] else none else none else none else none else none else none) (by kernel_rfl) ?_
    conv => zeta
    have e0 : (small es.length && (es.all okF && small x.length)) = small es.length := by rw [c5, c6]; cases small es.length <;> rfl
    rw [e0]
    refine Eq.trans (b := delTree (eqE x) fE (zeroE Tryz.prog 34) es (findN (eqN x es) es.length 0) (fun i j => Nat.beq PID PID && (Nat.beq (PID + 1) (PID + 1) && (decide (0 ≤ i ∧ i < j ∧ j ≤ es.length ∧ es.length ≤ 1000000) && (es.all okF && small x.length)))) fun l => k (.own RID) [none, some (.box false [.str x])] [.arr false fsh 34 l none]) (by kernel_rfl) ?_
    refine Eq.trans (delTree_eq rfl c3 hca fun i hi => and_t (Nat.beq_refl _) (and_t (Nat.beq_refl _) (and_t (decide_eq_true (by omega)) (and_t c5 c6)))) ?_
    exact hk
  · cases h
noncomputable def GFk : Env := { pure := [], fork := true }
theorem gfk : GOK Tryz.prog GFk := GOK.flags g0
def F22 : List AV → List Row → Tr XOut
  | [.slv (.agg [.str, .str]) es], [] => .gd (decide (es.length ≤ 1000000)) (.leaf (.own RID, [], [.arr false fsh 34 es none]))
  | _, _ => .no
theorem ok22 : XOK Tryz.prog 22 (ofX F22) ∧ XNat (ofX F22) := by
  refine ⟨xsum0 (H := [(2, 9999, 34)]) gfk Tryz.func22 (by kernel_rfl) fun ρ avs rows k r h => ?_, xnat_ofX _⟩
  change (F22 avs rows).run _ = some r at h
  unfold F22 at h
  split at h
  · rename_i es
    obtain ⟨hc, hk⟩ := gd_some h
    have hc' := of_decide_eq_true hc
    refine ⟨by simp, fun rows' hsp => ?_⟩
    obtain rfl : rows' = [] := by cases rows' with | nil => rfl | cons a b => exact hsp.elim
    refine Eq.trans (b := bif es.isEmpty then both (k (AV.own 2251799813685248) [] [Row.arr false (Sh.agg [Sh.str, Sh.str]) (34 : Nat) [] none]) (bif roomB es.length (Tryz.prog.bytesOf 34) then k (AV.own 2251799813685248) [] [Row.arr false (Sh.agg [Sh.str, Sh.str]) (34 : Nat) es none] else none) else bif roomB es.length (Tryz.prog.bytesOf 34) then k (AV.own 2251799813685248) [] [Row.arr false (Sh.agg [Sh.str, Sh.str]) (34 : Nat) es none] else none) (by kernel_rfl) ?_
    rw [← hk, roomB_small (by omega) by34]
    cases es with
    | nil => exact both_self _
    | cons x l => rfl
  · cases h
end Go.Proofs.YtpmlhkoianekfaaGreatDoor


namespace Go.Proofs.YtpmlhkoianekfaaGreatDoor
open Go.Ev
noncomputable def G7 : Env := { pure := [(20, ofT F20), (19, ofT F19), (15, ofT F15)], opens := [(21, ofX F21), (22, ofX F22)] }
theorem g7 : GOK Tryz.prog G7 := GOK.alsoX (GOK.alsoX (GOK.also (GOK.also (GOK.also g0 ok15) ok19) ok20) ok22) ok21
def woV (es : List AV) (n : List UInt8) : List AV := bif vl20C es n != 0 then [] else es.filter fun e => !eqE n e
def F7 : List AV → Tr AV
  | [.slv (.agg [.str, .str]) es, .str n] => .gd (small es.length && (es.all okF && (es.all (hasSh fsh) && small n.length))) (.leaf (.tup [.slv (.agg [.str, .str]) (woV es n), .agg [.int .i64 (vl20C es n), .int .i64 (vl20I es n)]]))
  | _ => .no
theorem ok7 : SumOK Tryz.prog 7 (ofT F7) ∧ SNat (ofT F7) := by
  refine fn0 g7 Tryz.func7 (by kernel_rfl) fun ρ avs k r h => ?_
  unfold F7 at h
  split at h
  · rename_i es n
    obtain ⟨hc, hk⟩ := gd_some h
    refine Eq.trans (b := bif small es.length && (es.all okF && small n.length) then bif vl20C es n != (0 : Int) then k (AV.tup [AV.slv (Sh.agg [Sh.str, Sh.str]) [], AV.agg [AV.int IntKind.i64 (vl20C es n), AV.int IntKind.i64 (vl20I es n)]]) else bif decide (es.length ≤ (1000000 : Nat)) then bif ((fun x => PID + x) (0 : Nat)).beq PID && (((fun x => PID + x) ((fun x => x + (1 : Nat)) (0 : Nat))).beq (PID + (1 : Nat)) && (decide (es.length ≤ (1000000 : Nat)) && (es.all (hasSh fsh) && (es.all okF && small n.length)))) then k (AV.tup [AV.slv (Sh.agg [Sh.str, Sh.str]) (List.filter (fun e => !eqE n e) es), AV.agg [AV.int IntKind.i64 0, AV.int IntKind.i64 0]]) else none else none else none) (by kernel_rfl) ?_
    rw [← hk]
    simp only [Bool.and_eq_true] at hc
    obtain ⟨h1, h2, h3, h4⟩ := hc
    unfold woV
    refine Eq.trans (cond_t (and_t h1 (and_t h2 h4))) ?_
    cases hv : vl20C es n != 0
    · have hz : vl20C es n = 0 := by simpa using hv
      have h60 : es.length ≤ 60 := hv_len (by
        unfold vl20C at hz
        cases hq : hvC es == 0
        · rw [hq] at hz
          have : hvC es ≠ 0 := by simpa using hq
          exact absurd hz this
        · rfl)
      have h1 : decide (es.length ≤ 1000000) = true := decide_eq_true (by omega)
      have hi : vl20I es n = 0 := by
        unfold vl20C at hz
        unfold vl20I
        cases hq : hvC es == 0
        · rw [hq] at hz
          have : hvC es ≠ 0 := by simpa using hq
          exact absurd hz this
        · rw [hq] at hz
          cases hn : nmF n
          · rw [hn] at hz
            have hz : (10 : Int) = 0 := hz
            omega
          · rfl
      rw [hz, hi]
      exact Eq.trans (cond_f rfl) (Eq.trans (cond_t h1) (cond_t (and_t (Nat.beq_refl _) (and_t (Nat.beq_refl _) (and_t h1 (and_t h3 (and_t h2 h4)))))))
    · rfl
  · cases h
def cT : List UInt8 := [67, 111, 110, 116, 101, 110, 116, 45, 84, 121, 112, 101]
def noT (e : AV) : Bool := !eqF (fN e) cT
noncomputable def G95 : Env := { pure := [(24, ofT F24)] }
theorem g95 : GOK Tryz.prog G95 := GOK.also g0 ok24
noncomputable def b95 : Code := ((Tryz.f95.body.map loopsOf).getD []).headD .skip
def L95 : List AV → List (Option Row) → Tr LOut
  | [.ptr 0 0, .int .i64 a, .slv (.agg [.str, .str]) es, .int .i64 n, .int .i64 i], [some (.box false [.str x, .str y, .slz (.agg [.str, .str])])] =>
    .gd (cnt n i es.length && (es.all okF && es.all noT)) (.leaf (.exit 0, [.ptr 0 0, .int .i64 a, .slv (.agg [.str, .str]) es, .int .i64 n, .int .i64 es.length], [some (.box false [.str x, .str y, .slz (.agg [.str, .str])])]))
  | _, _ => .no
def l95 : Ev.Loop := ⟨{ len := 42, slots := [2, 5, 10, 11, 12], rows := [0] }, ofL L95⟩
def μ95 (vs : List AV) (_ : List (Option Row)) : Nat := match vs with
  | [_, _, _, .int _ n, .int _ i] => (n - i).toNat
  | _ => 0
theorem loop95 : LoopOK Tryz.prog G95 [(3, l95)] b95 l95 := by
  refine loopT g95.natOK rfl (KOK.nil (by kernel_rfl)) μ95 (fun ρ vs rs k r h => ?_)
  unfold L95 at h
  split at h
  · rename_i a es n i x y
    obtain ⟨hc, hk⟩ := gd_some h
    simp only [Bool.and_eq_true] at hc
    obtain ⟨hc, hall, hno⟩ := hc
    obtain ⟨rfl, hs, j, rfl, hj⟩ := cnt_spec hc
    refine Eq.trans (b := bif decide ((↑j : Int) < (↑es.length : Int)) then bif inb (↑j : Int) es.length then bif small (fN (es.getD j AV.unk)).length && small cT.length then bif eqF (fN (es.getD j AV.unk)) cT then bif decide (a ≥ (0 : Int)) then k Ex.ret [AV.ptr 0 0, AV.int IntKind.i64 a, AV.slv (Sh.agg [Sh.str, Sh.str]) es, AV.int IntKind.i64 (↑es.length : Int), AV.int IntKind.i64 (↑j : Int)] [some (Row.box false [AV.str [], AV.str [], AV.slz (Sh.agg [Sh.str, Sh.str])])] else bif decide (((↑es.length : Int) - IntKind.i64.wrap ((↑j : Int) + (1 : Int))).toNat < ((↑es.length : Int) - (↑j : Int)).toNat) then bif cnt (↑es.length : Int) (IntKind.i64.wrap ((↑j : Int) + (1 : Int))) es.length && (es.all okF && es.all noT) then k (Ex.exit (0 : Nat)) [AV.ptr 0 0, AV.int IntKind.i64 (↑j : Int), AV.slv (Sh.agg [Sh.str, Sh.str]) es, AV.int IntKind.i64 (↑es.length : Int), AV.int IntKind.i64 (↑es.length : Int)] [some (Row.box false [AV.str x, AV.str y, AV.slz (Sh.agg [Sh.str, Sh.str])])] else none else none else bif decide (((↑es.length : Int) - IntKind.i64.wrap ((↑j : Int) + (1 : Int))).toNat < ((↑es.length : Int) - (↑j : Int)).toNat) then bif cnt (↑es.length : Int) (IntKind.i64.wrap ((↑j : Int) + (1 : Int))) es.length && (es.all okF && es.all noT) then k (Ex.exit (0 : Nat)) [AV.ptr 0 0, AV.int IntKind.i64 a, AV.slv (Sh.agg [Sh.str, Sh.str]) es, AV.int IntKind.i64 (↑es.length : Int), AV.int IntKind.i64 (↑es.length : Int)] [some (Row.box false [AV.str x, AV.str y, AV.slz (Sh.agg [Sh.str, Sh.str])])] else none else none else none else none else k (Ex.exit (0 : Nat)) [AV.ptr 0 0, AV.int IntKind.i64 a, AV.slv (Sh.agg [Sh.str, Sh.str]) es, AV.int IntKind.i64 (↑es.length : Int), AV.int IntKind.i64 (↑j : Int)] [some (Row.box false [AV.str x, AV.str y, AV.slz (Sh.agg [Sh.str, Sh.str])])]) (by kernel_rfl) ?_
    rw [← hk]
    by_cases hlt : j < es.length
    · obtain ⟨e1, e2, e3, e4, e5⟩ := cnt_facts hlt hs
      have hok1 : small (fN (es.getD j .unk)).length = true := ((Bool.and_eq_true _ _).mp (okF_at hall hlt)).1
      have hn : (!eqF (fN (es.getD j .unk)) cT) = true := List.all_eq_true.1 hno _ (by rw [getD_eq hlt]; exact List.getElem_mem hlt)
      have hn' : eqF (fN (es.getD j .unk)) cT = false := by simpa using hn
      have hsc : small cT.length = true := by decide
      simp only [e1, e2, e3, e4, e5, hok1, hsc, hn', hall, hno, Bool.and_true, cond_true, cond_false]
      rfl
    · obtain rfl : j = es.length := by omega
      rw [decide_eq_false (by omega)]
      rfl
  · cases h
def F95 : List AV → Tr AV
  | [.slv (.agg [.str, .str]) es] => .gd (small es.length && (es.all okF && es.all noT)) (.leaf (.tup [.agg [.str [], .str [], .slv (.agg [.str, .str]) []], .int .i64 0, .bool false]))
  | _ => .no
theorem ok95 : SumOK Tryz.prog 95 (ofT F95) ∧ SNat (ofT F95) := by
  refine fn1 (K := [(3, l95)]) (b := b95) (l := l95) g95 Tryz.func95 (by kernel_rfl) (by kernel_rfl) loop95 fun ρ avs k r h => ?_
  unfold F95 at h
  split at h
  · rename_i es
    obtain ⟨hc, hk⟩ := gd_some h
    obtain ⟨hs, hc⟩ := (Bool.and_eq_true _ _).mp hc
    refine Eq.trans (b := bif cnt (↑es.length : Int) (0 : Int) es.length && (es.all okF && es.all noT) then k (AV.tup [AV.agg [AV.str [], AV.str [], AV.slv (Sh.agg [Sh.str, Sh.str]) []], AV.int IntKind.i64 (0 : Int), AV.bool false]) else none) (by kernel_rfl) ?_
    rw [← hk]
    exact cond_t (and_t (cnt_zero hs) hc)
  · cases h
noncomputable def G139 : Env := { pure := [(95, ofT F95)] }
theorem g139 : GOK Tryz.prog G139 := GOK.also g0 ok95
def F139 : List AV → Tr AV
  | [.slv (.agg [.str, .str]) es] => .gd (small es.length && (es.all okF && es.all noT)) (.leaf (.tup [.str [], .bool false]))
  | _ => .no
theorem ok139 : SumOK Tryz.prog 139 (ofT F139) ∧ SNat (ofT F139) := by
  refine fn0 g139 Tryz.func139 (by kernel_rfl) fun ρ avs k r h => ?_
  unfold F139 at h
  split at h
  · rename_i es
    obtain ⟨hc, hk⟩ := gd_some h
    refine Eq.trans (b := bif small es.length && (es.all okF && es.all noT) then k (AV.tup [AV.str [], AV.bool false]) else none) (by kernel_rfl) ?_
    rw [← hk]
    exact cond_t hc
  · cases h
noncomputable def G94 : Env := { pure := [(139, ofT F139)] }
theorem g94 : GOK Tryz.prog G94 := GOK.also g0 ok139
def F94 : List AV → Tr AV
  | [.slv (.agg [.str, .str]) es, .slv (.int .u8) _bs, .int .i64 _d] => .gd (small es.length && (es.all okF && es.all noT)) (.leaf (.slv (.slice (.int .u8)) []))
  | _ => .no
theorem ok94 : SumOK Tryz.prog 94 (ofT F94) ∧ SNat (ofT F94) := by
  refine fn0 g94 Tryz.func94 (by kernel_rfl) fun ρ avs k r h => ?_
  unfold F94 at h
  split at h
  · rename_i es bs d
    obtain ⟨hc, hk⟩ := gd_some h
    refine Eq.trans (b := bif small es.length && (es.all okF && es.all noT) then k (AV.slv (Sh.int IntKind.u8).slice []) else none) (by kernel_rfl) ?_
    rw [← hk]
    exact cond_t hc
  · cases h
def F128 : List AV → List Row → Tr XOut
  | [.slv (.int .u8) es], [] => .gd (decide (es.length ≤ 1000000)) (.leaf (.own RID, [], [.arr false (.int .u8) 5 es none]))
  | _, _ => .no
theorem ok128 : XOK Tryz.prog 128 (ofX F128) ∧ XNat (ofX F128) := by
  refine ⟨xsum0 (H := [(2, 9999, 5)]) gfk Tryz.func128 (by kernel_rfl) fun ρ avs rows k r h => ?_, xnat_ofX _⟩
  change (F128 avs rows).run _ = some r at h
  unfold F128 at h
  split at h
  · rename_i es
    obtain ⟨hc, hk⟩ := gd_some h
    have hc' := of_decide_eq_true hc
    refine ⟨by simp, fun rows' hsp => ?_⟩
    obtain rfl : rows' = [] := by cases rows' with | nil => rfl | cons a b => exact hsp.elim
    refine Eq.trans (b := bif es.isEmpty then both (k (AV.own 2251799813685248) [] [Row.arr false (Sh.int IntKind.u8) (5 : Nat) [] none]) (bif roomB es.length (Tryz.prog.bytesOf 5) then k (AV.own 2251799813685248) [] [Row.arr false (Sh.int IntKind.u8) (5 : Nat) es none] else none) else bif roomB es.length (Tryz.prog.bytesOf 5) then k (AV.own 2251799813685248) [] [Row.arr false (Sh.int IntKind.u8) (5 : Nat) es none] else none) (by kernel_rfl) ?_
    rw [← hk, room5 (by omega)]
    cases es with
    | nil => exact both_self _
    | cons x l => rfl
  · cases h
end Go.Proofs.YtpmlhkoianekfaaGreatDoor


namespace Go.Ev
open Go.RowKit
def boxR : Row → Bool
  | .box _ _ => true
  | _ => false
theorem spared_box : ∀ {rs rs' : List Row}, rs.all boxR = true → Spared rs rs' → rs' = rs
  | [], [], _, _ => rfl
  | [], _ :: _, _, h => h.elim
  | .box i cs :: rs, r :: rs', ha, h => by
    obtain ⟨rfl, h⟩ := h
    rw [List.all_cons] at ha
    rw [spared_box ((Bool.and_eq_true _ _).mp ha).2 h]
  | .box _ _ :: _, [], _, h => h.elim
  | .arr .. :: _, _, ha, _ => by cases ha
  | .foc .. :: _, _, ha, _ => by cases ha
noncomputable def inX (P : Program) (Γ : Env) (fn : Func) : SummX := fun ρ avs rows k => if rows.all boxR && Nat.ble rows.length 1000 then evFX P Γ [] [] fn ρ avs rows k else none
theorem inX_ok {P : Program} {Γ : Env} (hΓ : GOK P Γ) (hm : P.follows .mixedOrders = true) {f : Nat} {fn : Func} (hfn : P.funcs[f]? = some fn) (hRg : ∀ c, fn.body = some c → RngOK Γ none c) (hfk : Γ.fork = false := by rfl) : XOK P f (inX P Γ fn) ∧ XNat (inX P Γ fn) := by
  have hK : ∀ c, fn.body = some c → KOK P Γ [] c := fun c _ b _ l hl => by cases hl
  refine ⟨xok_ofR hΓ (drawOK hΓ hm) hfn (fun ρ avs rows k r h => ?_) hRg, fun ρ avs rows k => ?_⟩
  · unfold inX at h
    split at h
    · rename_i hc
      obtain ⟨h1, h2⟩ := (Bool.and_eq_true _ _).mp hc
      have h2 := Nat.le_of_ble_eq_true h2
      exact ⟨by omega, fun rows' hs => ⟨[], [], hK, by rw [spared_box h1 hs]; exact h⟩⟩
    · cases h
  · unfold inX
    split
    · exact xnat_evFX hΓ.natOK hfk [] hK ρ avs rows k
    · rfl
theorem xnat_evY {P : Program} {Γ : Env} {K : List (Nat × Loop)} (hN : NatOK Γ) (hfk : Γ.fork = false) (key : Int) (q : Array Tmp × Code × Code) (h1 : KOK P Γ K q.2.1) (h2 : KOK P Γ K q.2.2) : XNat (evY P Γ K key q) := by
  intro ρ avs rows k
  unfold evY
  split
  · rename_i p xs key' tm rest
    generalize (p == PID && (key' == key && Nat.ble rest.length 999999)) = c
    cases c
    · rfl
    · simp only [St.force_eq, if_true]
      refine Eq.trans (evC_bind hN hfk _ h1 ρ _ _) (Eq.symm (Eq.trans (congrArg (fun o => Option.bind o _) (evC_bind hN hfk _ h1 _ _ _)) ?_))
      generalize evC P Γ K q.2.1 (Ex × St) _ (fun e st' => some (e, st')) = o
      cases o with
      | none => rfl
      | some pr =>
        obtain ⟨e, st1⟩ := pr
        cases e with
        | normal =>
          simp only [Option.bind_some]
          refine Eq.symm (Eq.trans (evC_bind hN hfk _ h2 ρ _ _) (Eq.symm (Eq.trans (congrArg (fun o => Option.bind o _) (evC_bind hN hfk _ h2 _ _ _)) ?_)))
          generalize evC P Γ K q.2.2 (Ex × St) st1 (fun e st' => some (e, st')) = o2
          cases o2 with
          | none => rfl
          | some pr2 =>
            obtain ⟨e2, st2⟩ := pr2
            cases e2 with
            | normal =>
              simp only [Option.bind_some]
              rw [finishX_bind fnE _ st2 (fun _ prow nrow => k (.bool true) (some (.box false (.tup [.int .i64 key] :: tm)) :: prow.tail) nrow), finishX_bind fnE _ st2 (fun _ prow nrow => some (AV.bool true, some (Row.box false (.tup [.int .i64 key] :: tm)) :: prow.tail, nrow))]
              cases finishX P fnE (rest.length + 1) st2 fun v p n => some (v, p, n) <;> rfl
            | ret =>
              simp only [Option.bind_some]
              rw [finishX_bind fnE _ st2 (fun _ prow nrow => k (.bool false) (some (.box false (.tup [.int .i64 key, .bool true] :: tm)) :: prow.tail) nrow), finishX_bind fnE _ st2 (fun _ prow nrow => some (AV.bool false, some (Row.box false (.tup [.int .i64 key, .bool true] :: tm)) :: prow.tail, nrow))]
              cases finishX P fnE (rest.length + 1) st2 fun v p n => some (v, p, n) <;> rfl
            | exit i => rfl
        | ret => rfl
        | exit i => rfl
  · rfl
theorem inY_ok {P : Program} {Γ : Env} {K : List (Nat × Loop)} (hΓ : GOK P Γ) (hm : P.follows .mixedOrders = true) {key : Int} (hr : Γ.rng = []) (h1 : KOK P Γ K (loopCode key).2.1) (h2 : KOK P Γ K (loopCode key).2.2) (hfk : Γ.fork = false := by rfl) : YOK P key (evY P Γ K key (loopCode key)) ∧ XNat (evY P Γ K key (loopCode key)) :=
  ⟨yok_of hΓ (drawOK hΓ hm) hr rfl h1 h2 (fun _ρ _avs _rows _k _r h => h), xnat_evY hΓ.natOK hfk key _ h1 h2⟩
def keyR : List Row → Int
  | .box false (.tup [.int .i64 key] :: _) :: _ => key
  | _ => -1
def byKey (key : Int) (A B : SummX) : SummX := fun ρ avs rows k => bif keyR rows == key then A ρ avs rows k else B ρ avs rows k
theorem byKey_ok {P : Program} {f : FuncId} {key : Int} {A B : SummX} (hA : XOK P f A ∧ XNat A) (hB : XOK P f B ∧ XNat B) : XOK P f (byKey key A B) ∧ XNat (byKey key A B) := by
  refine ⟨XOK.point fun avs rows => ?_, fun ρ avs rows k => ?_⟩
  · cases h : keyR rows == key
    · refine ⟨B, hB.1, fun ρ k r hF => ?_⟩
      unfold byKey at hF
      rw [h] at hF
      exact hF
    · refine ⟨A, hA.1, fun ρ k r hF => ?_⟩
      unfold byKey at hF
      rw [h] at hF
      exact hF
  · unfold byKey
    cases keyR rows == key
    · exact hB.2 ρ avs rows k
    · exact hA.2 ρ avs rows k
end Go.Ev
namespace Go.Proofs.YtpmlhkoianekfaaGreatDoor
open Go.Ev
def F56 : List AV → List Row → Tr XOut
  | [.agg [.slv (.agg [.str, .str]) es, .slv (.int .u8) bs, .slv (.agg [.slice (.agg [.str, .str]), .slice (.int .u8), .slice (.agg [.slice (.agg [.str, .str]), .slice (.int .u8), .slice (.agg [.slice (.agg [.str, .str]), .slice (.int .u8), .slice (.agg [.slice (.agg [.str, .str]), .slice (.int .u8), .slice (.agg [.slice .other, .slice .other, .slice .other])])])])]) []]], [] => .leaf (.fn 90 [.ptr RID 0], [], [.box false [.slv (.agg [.str, .str]) es, .slv (.int .u8) bs, .slv (.agg [.slice (.agg [.str, .str]), .slice (.int .u8), .slice (.agg [.slice (.agg [.str, .str]), .slice (.int .u8), .slice (.agg [.slice (.agg [.str, .str]), .slice (.int .u8), .slice (.agg [.slice (.agg [.str, .str]), .slice (.int .u8), .slice (.agg [.slice .other, .slice .other, .slice .other])])])])]) []]])
  | _, _ => .no
theorem ok56 : XOK Tryz.prog 56 (ofX F56) ∧ XNat (ofX F56) := by
  refine ⟨xsum0 (H := []) g0 Tryz.func56 (by kernel_rfl) fun ρ avs rows k r h => ?_, xnat_ofX _⟩
  change (F56 avs rows).run _ = some r at h
  unfold F56 at h
  split at h
  · rename_i es bs
    have hk := h
    refine ⟨by simp, fun rows' hsp => ?_⟩
    obtain rfl : rows' = [] := by cases rows' with | nil => rfl | cons a b => exact hsp.elim
    refine Eq.trans (b := k (AV.fn (90 : Nat) [AV.ptr 2251799813685248 0]) [] [Row.box false [AV.slv (Sh.agg [Sh.str, Sh.str]) es, AV.slv (Sh.int IntKind.u8) bs, AV.slv (Sh.agg [(Sh.agg [Sh.str, Sh.str]).slice, (Sh.int IntKind.u8).slice, (Sh.agg [(Sh.agg [Sh.str, Sh.str]).slice, (Sh.int IntKind.u8).slice, (Sh.agg [(Sh.agg [Sh.str, Sh.str]).slice, (Sh.int IntKind.u8).slice, (Sh.agg [(Sh.agg [Sh.str, Sh.str]).slice, (Sh.int IntKind.u8).slice, (Sh.agg [Sh.other.slice, Sh.other.slice, Sh.other.slice]).slice]).slice]).slice]).slice]) []]]) (by kernel_rfl) ?_
    exact hk
  · cases h
noncomputable def G57 : Env := { pure := [(43, ofT F43), (19, ofT F19), (93, ofT F93), (94, ofT F94)] }
theorem g57 : GOK Tryz.prog G57 := GOK.also (GOK.also (GOK.also (GOK.also g0 ok94) ok93) ok19) ok43
def ckC (es bs : List AV) : Int := bif hvC es != 0 then hvC es else bif decide ((bs.length : Int) > 12000) then 1 else (bd bs 0 0).1
def F57 : List AV → Tr AV
  | [.agg [.slv (.agg [.str, .str]) es, .slv (.int .u8) bs, .slv (.agg [.slice (.agg [.str, .str]), .slice (.int .u8), .slice (.agg [.slice (.agg [.str, .str]), .slice (.int .u8), .slice (.agg [.slice (.agg [.str, .str]), .slice (.int .u8), .slice (.agg [.slice (.agg [.str, .str]), .slice (.int .u8), .slice (.agg [.slice .other, .slice .other, .slice .other])])])])]) [], .int .i64 _d]] => .gd (small es.length && (es.all okF && (es.all noT && small bs.length))) (.leaf (.int .i64 (ckC es bs)))
  | _ => .no
theorem ok57 : SumOK Tryz.prog 57 (ofT F57) ∧ SNat (ofT F57) := by
  refine fn0 g57 Tryz.func57 (by kernel_rfl) fun ρ avs k r h => ?_
  unfold F57 at h
  split at h
  · rename_i es bs d
    obtain ⟨hc, hk⟩ := gd_some h
    refine Eq.trans (b := bif small es.length && es.all okF then bif hvC es != (0 : Int) then k (AV.int IntKind.i64 (hvC es)) else bif decide ((↑bs.length : Int) > (12000 : Int)) then k (AV.int IntKind.i64 1) else bif small bs.length then bif (bd bs (0 : Int) (0 : Nat)).fst != (0 : Int) then k (AV.int IntKind.i64 (bd bs (0 : Int) (0 : Nat)).fst) else bif small es.length && (es.all okF && es.all noT) then k (AV.int IntKind.i64 0) else none else none else none) (by kernel_rfl) ?_
    rw [← hk]
    obtain ⟨h1, hc⟩ := (Bool.and_eq_true _ _).mp hc
    obtain ⟨h2, hc⟩ := (Bool.and_eq_true _ _).mp hc
    obtain ⟨h3, h4⟩ := (Bool.and_eq_true _ _).mp hc
    unfold ckC
    rw [h1, h2, h3, h4]
    refine Eq.trans (cond_t rfl) ?_
    cases hvC es != 0
    · refine Eq.trans (cond_f rfl) ?_
      cases decide ((bs.length : Int) > 12000)
      · refine Eq.trans (cond_f rfl) (Eq.trans (cond_t rfl) ?_)
        cases hb : (bd bs 0 0).1 != 0
        · have : (bd bs 0 0).1 = 0 := by simpa using hb
          rw [this]; rfl
        · rfl
      · rfl
    · rfl
  · cases h
noncomputable def GY3 : Env := { pure := [(13, ofT F13)] }
theorem gY3 : GOK Tryz.prog GY3 := GOK.also g0 ok13
noncomputable def GY4 : Env := { pure := [(13, ofT F13), (57, ofT F57)] }
theorem gY4 : GOK Tryz.prog GY4 := GOK.also (GOK.also g0 ok57) ok13
theorem y3 : YOK Tryz.prog 3 (evY Tryz.prog GY3 [] 3 (loopCode 3)) ∧ XNat (evY Tryz.prog GY3 [] 3 (loopCode 3)) := inY_ok gY3 hmix rfl (KOK.nil (by kernel_rfl)) (KOK.nil (by kernel_rfl))
theorem y4 : YOK Tryz.prog 4 (evY Tryz.prog GY4 [] 4 (loopCode 4)) ∧ XNat (evY Tryz.prog GY4 [] 4 (loopCode 4)) := inY_ok gY4 hmix rfl (KOK.nil (by kernel_rfl)) (KOK.nil (by kernel_rfl))
noncomputable def E91 (key : Int) (Y : SummX) : Env := { pure := [], yld := some (key, 2, Y), tmpX := true, unroll := 2 }
noncomputable def E90 (key : Int) (Y : SummX) : Env := { pure := [], opens := [(91, inX Tryz.prog (E91 key Y) Tryz.f91)], tmpX := true }
theorem e91 {key : Int} {Y : SummX} (hY : YOK Tryz.prog key Y ∧ XNat Y) (hn : 2 = (loopCode key).1.size) : GOK Tryz.prog (E91 key Y) := GOK.flags (GOK.yields g0 hn hY)
theorem e90 {key : Int} {Y : SummX} (hY : YOK Tryz.prog key Y ∧ XNat Y) (hn : 2 = (loopCode key).1.size) : GOK Tryz.prog (E90 key Y) := GOK.flags (GOK.alsoX g0 (inX_ok (e91 hY hn) hmix Tryz.func91 fun c _ => RngOK.no rfl c))
theorem k90 {key : Int} {Y : SummX} (hY : YOK Tryz.prog key Y ∧ XNat Y) (hn : 2 = (loopCode key).1.size) : XOK Tryz.prog 90 (inX Tryz.prog (E90 key Y) Tryz.f90) ∧ XNat (inX Tryz.prog (E90 key Y) Tryz.f90) := inX_ok (e90 hY hn) hmix Tryz.func90 fun c _ => RngOK.no rfl c
noncomputable def Y3 : SummX := evY Tryz.prog GY3 [] 3 (loopCode 3)
noncomputable def Y4 : SummX := evY Tryz.prog GY4 [] 4 (loopCode 4)
noncomputable def G31 : Env := { pure := [(13, ofT F13), (15, ofT F15)], opens := [(56, ofX F56), (90, byKey 3 (inX Tryz.prog (E90 3 Y3) Tryz.f90) (inX Tryz.prog (E90 4 Y4) Tryz.f90))], rng := [(5, 3, 5000), (13, 4, 5001)] }
theorem g31 : GOK Tryz.prog G31 := GOK.flags (GOK.alsoX (GOK.alsoX (GOK.also (GOK.also g0 ok15) ok13) (byKey_ok (k90 y3 (by kernel_rfl)) (k90 y4 (by kernel_rfl)))) ok56)
theorem rng31 : (Tryz.f31.body.map rngsOf) = some [loopCode 3, loopCode 4] := by kernel_rfl
theorem rng31ok : ∀ c, Tryz.f31.body = some c → RngOK G31 none c := by
  intro c hc q hq key site he
  have h := rng31
  rw [hc] at h
  simp only [Option.map_some, Option.some.injEq] at h
  rw [h] at hq
  rcases List.mem_cons.1 hq with rfl | hq
  · have e : findIn G31.rng (firstRegion (loopCode 3).2.2) = some (3, 5000) := by kernel_rfl
    rw [e] at he
    cases he
    exact ⟨rfl, rfl⟩
  · rw [List.mem_singleton] at hq
    subst hq
    have e : findIn G31.rng (firstRegion (loopCode 4).2.2) = some (4, 5001) := by kernel_rfl
    rw [e] at he
    cases he
    exact ⟨rfl, rfl⟩
def F31 : List AV → Tr AV
  | [.agg [.slv (.agg [.str, .str]) es, .slv (.int .u8) bs, .slv (.agg [.slice (.agg [.str, .str]), .slice (.int .u8), .slice (.agg [.slice (.agg [.str, .str]), .slice (.int .u8), .slice (.agg [.slice (.agg [.str, .str]), .slice (.int .u8), .slice (.agg [.slice (.agg [.str, .str]), .slice (.int .u8), .slice (.agg [.slice .other, .slice .other, .slice .other])])])])]) []]] => .gd (small es.length && (es.all okF && (es.all noT && small bs.length))) (.leaf (.agg [.int .i64 (ckC es bs), .int .i64 0]))
  | _ => .no
theorem ok31 : SumOK Tryz.prog 31 (ofT F31) ∧ SNat (ofT F31) := by
  refine ⟨sumOK_ofR g31 (drawOK g31 hmix) Tryz.func31 (fun ρ avs k r h => ⟨[], fun c hc => KOK.nil (by
      have h1 : Tryz.f31.body.map loopsOf = some [] := by kernel_rfl
      rw [hc] at h1
      simpa using h1), ?_⟩) rng31ok, snat_ofT _⟩
  change (F31 avs).run k = some r at h
  unfold F31 at h
  split at h
  · rename_i es bs
    obtain ⟨hc, hk⟩ := gd_some h
    refine Eq.trans (b := bif small es.length && (es.all okF && (es.all noT && small bs.length)) then bif ckC es bs != (0 : Int) then k (AV.agg [AV.int IntKind.i64 (ckC es bs), AV.int IntKind.i64 0]) else k (AV.agg [AV.int IntKind.i64 0, AV.int IntKind.i64 0]) else none) (by kernel_rfl) ?_
    rw [← hk, hc]
    refine Eq.trans (cond_t rfl) ?_
    cases hz : ckC es bs != 0
    · have : ckC es bs = 0 := by simpa using hz
      rw [this]; rfl
    · rfl
  · cases h
noncomputable def G83 : Env := { pure := [(94, ofT F94)], opens := [(22, ofX F22), (128, ofX F128)] }
theorem g83 : GOK Tryz.prog G83 := GOK.alsoX (GOK.alsoX (GOK.also g0 ok94) ok128) ok22
theorem ok83 : XOK Tryz.prog 83 (inX Tryz.prog G83 Tryz.f83) ∧ XNat (inX Tryz.prog G83 Tryz.f83) := inX_ok g83 hmix Tryz.func83 fun c _ => RngOK.no rfl c
noncomputable def G50 : Env := { pure := [(35, ofT F35), (19, ofT F19), (31, ofT F31), (13, ofT F13), (15, ofT F15)], opens := [(83, inX Tryz.prog G83 Tryz.f83)] }
theorem g50 : GOK Tryz.prog G50 := GOK.alsoX (GOK.also (GOK.also (GOK.also (GOK.also (GOK.also g0 ok15) ok13) ok31) ok19) ok35) ok83
def F50 : List AV → Tr AV
  | [.agg [.slv (.agg [.str, .str]) es, .slv (.int .u8) bs]] => .gd (decide (es.length ≤ 1000000 ∧ bs.length ≤ 1000000) && (es.all okF && es.all noT))
      (.br (vdC es bs != 0) (.leaf (.tup [.agg [.slv (.agg [.str, .str]) [], .slv (.int .u8) [], .slv (.agg [.slice (.agg [.str, .str]), .slice (.int .u8), .slice (.agg [.slice (.agg [.str, .str]), .slice (.int .u8), .slice (.agg [.slice (.agg [.str, .str]), .slice (.int .u8), .slice (.agg [.slice (.agg [.str, .str]), .slice (.int .u8), .slice (.agg [.slice .other, .slice .other, .slice .other])])])])]) []], .agg [.int .i64 (vdC es bs), .int .i64 (vdI es bs)]]))
       (.br (ckC es bs != 0) (.leaf (.tup [.agg [.slv (.agg [.str, .str]) [], .slv (.int .u8) [], .slv (.agg [.slice (.agg [.str, .str]), .slice (.int .u8), .slice (.agg [.slice (.agg [.str, .str]), .slice (.int .u8), .slice (.agg [.slice (.agg [.str, .str]), .slice (.int .u8), .slice (.agg [.slice (.agg [.str, .str]), .slice (.int .u8), .slice (.agg [.slice .other, .slice .other, .slice .other])])])])]) []], .agg [.int .i64 (ckC es bs), .int .i64 (-9)]]))
        (.leaf (.tup [.agg [.slv (.agg [.str, .str]) es, .slv (.int .u8) bs, .slv (.agg [.slice (.agg [.str, .str]), .slice (.int .u8), .slice (.agg [.slice (.agg [.str, .str]), .slice (.int .u8), .slice (.agg [.slice (.agg [.str, .str]), .slice (.int .u8), .slice (.agg [.slice (.agg [.str, .str]), .slice (.int .u8), .slice (.agg [.slice .other, .slice .other, .slice .other])])])])]) []], .agg [.int .i64 0, .int .i64 0]]))))
  | _ => .no
theorem ok50 : SumOK Tryz.prog 50 (ofT F50) ∧ SNat (ofT F50) := by
  refine fn0 g50 Tryz.func50 (by kernel_rfl) fun ρ avs k r h => ?_
  unfold F50 at h
  split at h
  · rename_i es bs
    obtain ⟨hc, hk⟩ := gd_some h
    refine Eq.trans (b := have c80 := (Sh.agg [(Sh.agg [Sh.str, Sh.str]).slice, (Sh.int IntKind.u8).slice, (Sh.agg [(Sh.agg [Sh.str, Sh.str]).slice, (Sh.int IntKind.u8).slice, (Sh.agg [(Sh.agg [Sh.str, Sh.str]).slice, (Sh.int IntKind.u8).slice, (Sh.agg [(Sh.agg [Sh.str, Sh.str]).slice, (Sh.int IntKind.u8).slice, (Sh.agg [Sh.other.slice, Sh.other.slice, Sh.other.slice]).slice]).slice]).slice]).slice]); have c81 := [AV.slv (Sh.agg [Sh.str, Sh.str]) [], AV.slv (Sh.int IntKind.u8) [], AV.slv c80 []]; bif small es.length && (es.all okF && decide (bs.length ≤ (141000000000000 : Nat))) then bif vdC es bs != (0 : Int) then k (AV.tup [AV.agg c81, AV.agg [AV.int IntKind.i64 (vdC es bs), AV.int IntKind.i64 (vdI es bs)]]) else bif decide (es.length ≤ (1000000 : Nat)) then bif decide (bs.length ≤ (1000000 : Nat)) then bif small es.length && (es.all okF && es.all noT) then bif small es.length && (es.all okF && (es.all noT && small bs.length)) then bif ckC es bs != (0 : Int) then k (AV.tup [AV.agg c81, AV.agg [AV.int IntKind.i64 (ckC es bs), AV.int IntKind.i64 (-9 : Int)]]) else k (AV.tup [AV.agg [AV.slv (Sh.agg [Sh.str, Sh.str]) es, AV.slv (Sh.int IntKind.u8) bs, AV.slv c80 []], AV.agg [AV.int IntKind.i64 0, AV.int IntKind.i64 0]]) else none else none else none else none else none) (by kernel_rfl) ?_
    conv => zeta
    rw [← hk]
    obtain ⟨hc, hall⟩ := (Bool.and_eq_true _ _).mp hc
    obtain ⟨h1, h2⟩ := of_decide_eq_true hc
    obtain ⟨h3, h4⟩ := (Bool.and_eq_true _ _).mp hall
    have hs : small es.length = true := decide_eq_true (by omega)
    refine Eq.trans (cond_t (and_t hs (and_t h3 (decide_eq_true (by omega))))) ?_
    cases vdC es bs != 0
    · refine Eq.trans (cond_f rfl) (Eq.trans (cond_t (decide_eq_true h1)) (Eq.trans (cond_t (decide_eq_true h2)) (Eq.trans (cond_t (and_t hs hall)) (Eq.trans (cond_t (and_t hs (and_t h3 (and_t h4 (decide_eq_true (by omega)))))) ?_))))
      cases ckC es bs != 0 <;> rfl
    · rfl
  · cases h
end Go.Proofs.YtpmlhkoianekfaaGreatDoor


namespace Go.Proofs.YtpmlhkoianekfaaGreatDoor
open Go.Ev
def cTE : List UInt8 := [67, 111, 110, 116, 101, 110, 116, 45, 84, 114, 97, 110, 115, 102, 101, 114, 45, 69, 110, 99, 111, 100, 105, 110, 103]
noncomputable def G54 : Env := { pure := [(24, ofT F24), (88, ofT F88)] }
theorem g54 : GOK Tryz.prog G54 := GOK.also (GOK.also g0 ok88) ok24
noncomputable def b54 : Code := ((Tryz.f54.body.map loopsOf).getD []).headD .skip
def isTE (es bs : List AV) (i : Nat) : Bool := eqF (fN (es.getD i .unk)) cTE && (deC bs (fV (es.getD i .unk)) != 18)
def L54 : List AV → List (Option Row) → Tr LOut
  | [.ptr 0 0, .slz (.int .u8), .slv (.agg [.str, .str]) es, .int .i64 n, .int .i64 i], [some (.box false [.slv (.agg [.str, .str]) es', .slv (.int .u8) bs, .slv (.agg [.slice (.agg [.str, .str]), .slice (.int .u8), .slice (.agg [.slice (.agg [.str, .str]), .slice (.int .u8), .slice (.agg [.slice (.agg [.str, .str]), .slice (.int .u8), .slice (.agg [.slice (.agg [.str, .str]), .slice (.int .u8), .slice (.agg [.slice .other, .slice .other, .slice .other])])])])]) []])] =>
    .gd (cnt n i es.length && (es.all okF && (small bs.length && bs.all bE))) (sT (isTE es bs) es.length (fun q => .leaf (.ret, [.ptr 0 0, .slv (.int .u8) (deV bs (fV (es.getD q .unk))), .slv (.agg [.str, .str]) es, .int .i64 n, .int .i64 (q : Nat)], [some (.box false [.slv (.agg [.str, .str]) es', .slv (.int .u8) bs, .slv (.agg [.slice (.agg [.str, .str]), .slice (.int .u8), .slice (.agg [.slice (.agg [.str, .str]), .slice (.int .u8), .slice (.agg [.slice (.agg [.str, .str]), .slice (.int .u8), .slice (.agg [.slice (.agg [.str, .str]), .slice (.int .u8), .slice (.agg [.slice .other, .slice .other, .slice .other])])])])]) []])])) (.leaf (.exit 0, [.ptr 0 0, .slz (.int .u8), .slv (.agg [.str, .str]) es, .int .i64 n, .int .i64 es.length], [some (.box false [.slv (.agg [.str, .str]) es', .slv (.int .u8) bs, .slv (.agg [.slice (.agg [.str, .str]), .slice (.int .u8), .slice (.agg [.slice (.agg [.str, .str]), .slice (.int .u8), .slice (.agg [.slice (.agg [.str, .str]), .slice (.int .u8), .slice (.agg [.slice (.agg [.str, .str]), .slice (.int .u8), .slice (.agg [.slice .other, .slice .other, .slice .other])])])])]) []])])) i.toNat)
  | _, _ => .no
def l54 : Ev.Loop := ⟨{ len := 40, slots := [1, 2, 10, 11, 12], rows := [0] }, ofL L54⟩
def μ54 (vs : List AV) (_ : List (Option Row)) : Nat := match vs with
  | [_, _, _, .int _ n, .int _ i] => (n - i).toNat
  | _ => 0
theorem loop54 : LoopOK Tryz.prog G54 [(2, l54)] b54 l54 := by
  refine loopT g54.natOK rfl (KOK.nil (by kernel_rfl)) μ54 (fun ρ vs rs k r h => ?_)
  unfold L54 at h
  split at h
  · rename_i es n i es' bs
    obtain ⟨hc, hk⟩ := gd_some h
    simp only [Bool.and_eq_true] at hc
    obtain ⟨hc, hall, hsb, hbb⟩ := hc
    obtain ⟨rfl, hs, j, rfl, hj⟩ := cnt_spec hc
    rw [Int.toNat_natCast] at hk
    refine Eq.trans (b := have c80 := [some (Row.box false [AV.slv (Sh.agg [Sh.str, Sh.str]) es', AV.slv (Sh.int IntKind.u8) bs, AV.slv (Sh.agg [(Sh.agg [Sh.str, Sh.str]).slice, (Sh.int IntKind.u8).slice, (Sh.agg [(Sh.agg [Sh.str, Sh.str]).slice, (Sh.int IntKind.u8).slice, (Sh.agg [(Sh.agg [Sh.str, Sh.str]).slice, (Sh.int IntKind.u8).slice, (Sh.agg [(Sh.agg [Sh.str, Sh.str]).slice, (Sh.int IntKind.u8).slice, (Sh.agg [Sh.other.slice, Sh.other.slice, Sh.other.slice]).slice]).slice]).slice]).slice]) []])]; have c81 := (findN (isTE es bs) es.length (IntKind.i64.wrap ((↑j : Int) + (1 : Int))).toNat); have c82 := [AV.ptr 0 0, AV.slv (Sh.int IntKind.u8) (deV bs (fV (es.getD (c81.getD (0 : Nat)) AV.unk))), AV.slv (Sh.agg [Sh.str, Sh.str]) es, AV.int IntKind.i64 (↑es.length : Int), AV.int IntKind.i64 (↑(c81.getD (0 : Nat)) : Int)]; have c83 := [AV.ptr 0 0, AV.slz (Sh.int IntKind.u8), AV.slv (Sh.agg [Sh.str, Sh.str]) es, AV.int IntKind.i64 (↑es.length : Int), AV.int IntKind.i64 (↑es.length : Int)]; bif decide ((↑j : Int) < (↑es.length : Int)) then bif inb (↑j : Int) es.length then bif small (fN (es.getD j AV.unk)).length && small cTE.length then bif !eqF (fN (es.getD j AV.unk)) cTE then bif decide (((↑es.length : Int) - IntKind.i64.wrap ((↑j : Int) + (1 : Int))).toNat < ((↑es.length : Int) - (↑j : Int)).toNat) then bif cnt (↑es.length : Int) (IntKind.i64.wrap ((↑j : Int) + (1 : Int))) es.length && (es.all okF && (small bs.length && bs.all bE)) then bif c81.isSome then k Ex.ret c82 c80 else k (Ex.exit (0 : Nat)) c83 c80 else none else none else bif small (fV (es.getD j AV.unk)).length && (small bs.length && bs.all bE) then bif deC bs (fV (es.getD j AV.unk)) != (18 : Int) then k Ex.ret [AV.ptr 0 0, AV.slv (Sh.int IntKind.u8) (deV bs (fV (es.getD j AV.unk))), AV.slv (Sh.agg [Sh.str, Sh.str]) es, AV.int IntKind.i64 (↑es.length : Int), AV.int IntKind.i64 (↑j : Int)] c80 else bif decide (((↑es.length : Int) - IntKind.i64.wrap ((↑j : Int) + (1 : Int))).toNat < ((↑es.length : Int) - (↑j : Int)).toNat) then bif cnt (↑es.length : Int) (IntKind.i64.wrap ((↑j : Int) + (1 : Int))) es.length && (es.all okF && (small bs.length && bs.all bE)) then bif c81.isSome then k Ex.ret c82 c80 else k (Ex.exit (0 : Nat)) c83 c80 else none else none else none else none else none else k (Ex.exit (0 : Nat)) [AV.ptr 0 0, AV.slz (Sh.int IntKind.u8), AV.slv (Sh.agg [Sh.str, Sh.str]) es, AV.int IntKind.i64 (↑es.length : Int), AV.int IntKind.i64 (↑j : Int)] c80) (by kernel_rfl) ?_
    conv => zeta
    rw [← hk]
    by_cases hlt : j < es.length
    · obtain ⟨e1, e2, e3, e4, e5⟩ := cnt_facts hlt hs
      have hok := okF_at hall hlt
      have hok1 : small (fN (es.getD j .unk)).length = true := ((Bool.and_eq_true _ _).mp hok).1
      have hok2 : small (fV (es.getD j .unk)).length = true := ((Bool.and_eq_true _ _).mp hok).2
      have hsc : small cTE.length = true := by decide
      rw [sT_step _ _ _ _ _ hlt]
      have hw : isTE es bs j = (eqF (fN (es.getD j .unk)) cTE && (deC bs (fV (es.getD j .unk)) != 18)) := rfl
      rw [hw]
      simp only [e1, e2, e3, e4, e5, hok1, hok2, hsc, hall, hsb, hbb, Bool.and_true, cond_true, Int.toNat_natCast]
      cases eqF (fN (es.getD j .unk)) cTE <;> cases deC bs (fV (es.getD j .unk)) != 18 <;> rfl
    · obtain rfl : j = es.length := by omega
      rw [decide_eq_false (by omega), sT_end]
      rfl
  · cases h
def cnV (es bs : List AV) : List AV := bif (findN (isTE es bs) es.length 0).isSome then deV bs (fV (es.getD ((findN (isTE es bs) es.length 0).getD 0) .unk)) else deV bs s7b
def F54 : List AV → Tr AV
  | [.agg [.slv (.agg [.str, .str]) es, .slv (.int .u8) bs, .slv (.agg [.slice (.agg [.str, .str]), .slice (.int .u8), .slice (.agg [.slice (.agg [.str, .str]), .slice (.int .u8), .slice (.agg [.slice (.agg [.str, .str]), .slice (.int .u8), .slice (.agg [.slice (.agg [.str, .str]), .slice (.int .u8), .slice (.agg [.slice .other, .slice .other, .slice .other])])])])]) []]] => .gd (small es.length && (es.all okF && (small bs.length && bs.all bE))) (.leaf (.slv (.int .u8) (cnV es bs)))
  | _ => .no
theorem ok54 : SumOK Tryz.prog 54 (ofT F54) ∧ SNat (ofT F54) := by
  refine fn1 (K := [(2, l54)]) (b := b54) (l := l54) g54 Tryz.func54 (by kernel_rfl) (by kernel_rfl) loop54 fun ρ avs k r h => ?_
  unfold F54 at h
  split at h
  · rename_i es bs
    obtain ⟨hc, hk⟩ := gd_some h
    obtain ⟨hs, hc⟩ := (Bool.and_eq_true _ _).mp hc
    obtain ⟨h2, h3⟩ := (Bool.and_eq_true _ _).mp hc
    refine Eq.trans (b := bif cnt (↑es.length : Int) (0 : Int) es.length && (es.all okF && (small bs.length && bs.all bE)) then bif (findN (isTE es bs) es.length (0 : Nat)).isSome then k (AV.slv (Sh.int IntKind.u8) (deV bs (fV (es.getD ((findN (isTE es bs) es.length (0 : Nat)).getD (0 : Nat)) AV.unk)))) else bif small s7b.length && (small bs.length && bs.all bE) then k (AV.slv (Sh.int IntKind.u8) (deV bs s7b)) else none else none) (by kernel_rfl) ?_
    rw [← hk]
    unfold cnV
    refine Eq.trans (cond_t (and_t (cnt_zero hs) hc)) ?_
    cases (findN (isTE es bs) es.length 0).isSome
    · exact cond_t (and_t (by decide) h3)
    · rfl
  · cases h
def F30 : List AV → Tr AV
  | [.slv (.int .u8) xs, .slv (.int .u8) bs] => .leaf (.bool (strAV xs == strAV bs))
  | _ => .no
theorem ok30 : SumOK Tryz.prog 30 (ofT F30) ∧ SNat (ofT F30) := by
  refine fn0 gc Tryz.func30 (by kernel_rfl) fun ρ avs k r h => ?_
  unfold F30 at h
  split at h
  · rename_i xs bs
    have hk := h
    refine Eq.trans (b := k (AV.bool (strAV xs == strAV bs))) (by kernel_rfl) ?_
    exact hk
  · cases h
end Go.Proofs.YtpmlhkoianekfaaGreatDoor

namespace Go.Proofs.YtpmlhkoianekfaaGreatDoor
open Go.Ev
def sRc : List UInt8 := [82, 101, 99, 101, 105, 118, 101, 100]
noncomputable def itF : Int → List UInt8 := Classical.choose (⟨Lib.itoa, rfl⟩ : ∃ f : Int → List UInt8, f = Lib.itoa)
theorem itF_eq : itF = Lib.itoa := Classical.choose_spec (⟨Lib.itoa, rfl⟩ : ∃ f : Int → List UInt8, f = Lib.itoa)
noncomputable def itS (n : Int) : List UInt8 := itF n
theorem itS_eq (n : Int) : itS n = Lib.itoa n := congrFun itF_eq n
noncomputable def F55s : List AV → Tr AV
  | [.int .i64 n] => .gd (inR n (-9223372036854775808) 9223372036854775807) (.leaf (.str (itS n)))
  | _ => .no
theorem ok55s : SumOK Tryz.prog 55 (ofT F55s) ∧ SNat (ofT F55s) := by
  have e : F55s = F55 := by
    funext avs
    unfold F55s F55
    split
    · rw [itS_eq]
    · rename_i hne
      split
      · exact absurd rfl (hne _)
      · rfl
  rw [e]
  exact ok55
theorem itS_len {n : Int} (h0 : -9223372036854775808 ≤ n) (h1 : n ≤ 9223372036854775807) : (itS n).length ≤ 21 := by rw [itS_eq]; exact Lib.itoa_length_le n h0 h1
noncomputable def GY6 : Env := { pure := [(24, ofT F24), (52, ofT F52), (54, ofT F54), (53, ofT F53), (55, ofT F55s)] }
theorem gY6 : GOK Tryz.prog GY6 := GOK.also (GOK.also (GOK.also (GOK.also (GOK.also g0 ok55s) ok53) ok54) ok52) ok24
noncomputable def b29 : Code := ((loopsOf (loopCode 6).2.2)).headD .skip
def fmS (es : List AV) : List UInt8 := es.flatMap fun e => bif !eqF (fN e) sRc && !eqF (fN e) cTE then fldF (fN e) (fV e) else []
theorem fmS_step {es : List AV} {j : Nat} (h : j < es.length) : fmS (es.drop j) = (bif !eqF (fN (es.getD j .unk)) sRc && !eqF (fN (es.getD j .unk)) cTE then fldF (fN (es.getD j .unk)) (fV (es.getD j .unk)) else []) ++ fmS (es.drop (j + 1)) := by rw [drop_getD h]; rfl
theorem fldF_len (n v : List UInt8) : (fldF n v).length ≤ n.length + v.length + 3 := by
  unfold fldF
  have h1 : (lowS n).length = n.length := by unfold lowS; rw [List.length_map]
  have h2 := sqF_len v
  have h3 : ([58] : List UInt8).length = 1 := rfl
  have h4 : ([13, 10] : List UInt8).length = 2 := rfl
  rw [List.length_append, List.length_append, List.length_append, h1, h3, h4]
  omega
theorem fmS_len : ∀ es : List AV, es.all okV = true → (fmS es).length ≤ 60000 * es.length
  | [], _ => Nat.le_refl _
  | e :: es, h => by
    rw [List.all_cons] at h
    obtain ⟨h1, h2⟩ := (Bool.and_eq_true _ _).mp h
    have ih := fmS_len es h2
    have h1 : (fN e).length + (fV e).length ≤ 50000 := of_decide_eq_true h1
    have hf := fldF_len (fN e) (fV e)
    show ((bif !eqF (fN e) sRc && !eqF (fN e) cTE then fldF (fN e) (fV e) else []) ++ fmS es).length ≤ _
    rw [List.length_append, List.length_cons]
    cases !eqF (fN e) sRc && !eqF (fN e) cTE
    · rw [cond_false]; show 0 + _ ≤ _; omega
    · rw [cond_true]; omega
def L29 : List AV → List (Option Row) → Tr LOut
  | [.ptr 1125899906842629 0, .ptr 384 0, .own 900, .slz (.int .u8), .slv (.agg [.str, .str]) es, .int .i64 n, .int .i64 i], [some (.box false [.slv sa ea, .slv sb eb]), some (.box false [.int .i64 z0, .int .i64 z1]), some (.box false [.slv sc ec, .slv sd ed, .slv sg eg]), some (.box false [.int .i64 f0, .int .i64 f1]), some (.box false [.slz (.int .u8)]), some (.box false [.slv sh eh, .slv si ei, .slv sj ej]), some (.box false [.slv sk ek, .slv sl el, .slv sm em]), some (.arr false (.int .u8) e5 out none)] =>
    .gd (cnt n i es.length && (decide (out.length ≤ 200000 * i ∧ es.length ≤ 1000 ∧ e5 = 5) && es.all okV))
      (.leaf (.exit 2, [.ptr 1125899906842629 0, .ptr 384 0, .own 900, .slz (.int .u8), .slv (.agg [.str, .str]) es, .int .i64 n, .int .i64 es.length], [some (.box false [.slv sa ea, .slv sb eb]), some (.box false [.int .i64 z0, .int .i64 z1]), some (.box false [.slv sc ec, .slv sd ed, .slv sg eg]), some (.box false [.int .i64 f0, .int .i64 f1]), some (.box false [.slz (.int .u8)]), some (.box false [.slv sh eh, .slv si ei, .slv sj ej]), some (.box false [.slv sk ek, .slv sl el, .slv sm em]), some (.arr false (.int .u8) e5 (out ++ bytesAV (fmS (es.drop i.toNat))) none)]))
  | _, _ => .no
def l29 : Ev.Loop := ⟨{ len := 79, slots := [6, 8, 9, 10, 27, 28, 29], rows := [1125899906842625, 1125899906842626, 1125899906842627, 1125899906842628, 1125899906842629, 1125899906842630, 384, 900], homes := [(9, 900, 5)] }, ofL L29⟩
def μ29 (vs : List AV) (_ : List (Option Row)) : Nat := match vs with
  | [_, _, _, _, _, .int _ n, .int _ i] => (n - i).toNat
  | _ => 0
theorem loop29 : LoopOK Tryz.prog GY6 [(9, l29)] b29 l29 := by
  refine loopT gY6.natOK rfl (KOK.nil (by kernel_rfl)) μ29 (fun ρ vs rs k r h => ?_)
  unfold L29 at h
  split at h
  · rename_i es n i sa ea sb eb z0 z1 sc ec sd ed sg eg f0 f1 sh eh si ei sj ej sk ek sl el sm em e5 out
    obtain ⟨hc, hk⟩ := gd_some h
    simp only [Bool.and_eq_true] at hc
    obtain ⟨hc, hb, hall⟩ := hc
    obtain ⟨hb, hn, rfl⟩ := of_decide_eq_true hb
    obtain ⟨rfl, hs, j, rfl, hj⟩ := cnt_spec hc
    rw [Int.toNat_natCast] at hk
    refine Eq.trans (b := have c80 := [some (Row.box false [AV.slv sa ea, AV.slv sb eb]), some (Row.box false [AV.int IntKind.i64 z0, AV.int IntKind.i64 z1]), some (Row.box false [AV.slv sc ec, AV.slv sd ed, AV.slv sg eg]), some (Row.box false [AV.int IntKind.i64 f0, AV.int IntKind.i64 f1]), some (Row.box false [AV.slz (Sh.int IntKind.u8)]), some (Row.box false [AV.slv sh eh, AV.slv si ei, AV.slv sj ej]), some (Row.box false [AV.slv sk ek, AV.slv sl el, AV.slv sm em]), some (Row.arr false (Sh.int IntKind.u8) (5 : Nat) (out ++ bytesAV (fmS (List.drop (IntKind.i64.wrap ((↑j : Int) + (1 : Int))).toNat es))) none)]; have c81 := [AV.ptr 1125899906842629 0, AV.ptr 384 0, AV.own 900, AV.slz (Sh.int IntKind.u8), AV.slv (Sh.agg [Sh.str, Sh.str]) es, AV.int IntKind.i64 (↑es.length : Int), AV.int IntKind.i64 (↑es.length : Int)]; have c82 := (decide ((↑out.length : Int) ≤ (200000 : Int) * IntKind.i64.wrap ((↑j : Int) + (1 : Int)) ∧ es.length ≤ (1000 : Nat) ∧ (5 : TypeId) = (5 : TypeId)) && es.all okV); bif decide ((↑j : Int) < (↑es.length : Int)) then bif inb (↑j : Int) es.length then bif small (fN (es.getD j AV.unk)).length && small sRc.length then bif !eqF (fN (es.getD j AV.unk)) sRc then bif small (fN (es.getD j AV.unk)).length && small cTE.length then bif !eqF (fN (es.getD j AV.unk)) cTE then bif decide ((fN (es.getD j AV.unk)).length ≤ (100000000000 : Nat) ∧ (fV (es.getD j AV.unk)).length ≤ (100000000000 : Nat)) then bif roomB (out.length + (bytesAV (fldF (fN (es.getD j AV.unk)) (fV (es.getD j AV.unk)))).length) (Tryz.prog.bytesOf 5) then bif decide (((↑es.length : Int) - IntKind.i64.wrap ((↑j : Int) + (1 : Int))).toNat < ((↑es.length : Int) - (↑j : Int)).toNat) then bif cnt (↑es.length : Int) (IntKind.i64.wrap ((↑j : Int) + (1 : Int))) es.length && (decide ((↑(out ++ bytesAV (fldF (fN (es.getD j AV.unk)) (fV (es.getD j AV.unk)))).length : Int) ≤ (200000 : Int) * IntKind.i64.wrap ((↑j : Int) + (1 : Int)) ∧ es.length ≤ (1000 : Nat) ∧ (5 : Nat) = (5 : TypeId)) && es.all okV) then k (Ex.exit (2 : Nat)) c81 [some (Row.box false [AV.slv sa ea, AV.slv sb eb]), some (Row.box false [AV.int IntKind.i64 z0, AV.int IntKind.i64 z1]), some (Row.box false [AV.slv sc ec, AV.slv sd ed, AV.slv sg eg]), some (Row.box false [AV.int IntKind.i64 f0, AV.int IntKind.i64 f1]), some (Row.box false [AV.slz (Sh.int IntKind.u8)]), some (Row.box false [AV.slv sh eh, AV.slv si ei, AV.slv sj ej]), some (Row.box false [AV.slv sk ek, AV.slv sl el, AV.slv sm em]), some (Row.arr false (Sh.int IntKind.u8) (5 : Nat) (out ++ bytesAV (fldF (fN (es.getD j AV.unk)) (fV (es.getD j AV.unk))) ++ bytesAV (fmS (List.drop (IntKind.i64.wrap ((↑j : Int) + (1 : Int))).toNat es))) none)] else none else none else none else none else bif decide (((↑es.length : Int) - IntKind.i64.wrap ((↑j : Int) + (1 : Int))).toNat < ((↑es.length : Int) - (↑j : Int)).toNat) then bif cnt (↑es.length : Int) (IntKind.i64.wrap ((↑j : Int) + (1 : Int))) es.length && c82 then k (Ex.exit (2 : Nat)) c81 c80 else none else none else none else bif decide (((↑es.length : Int) - IntKind.i64.wrap ((↑j : Int) + (1 : Int))).toNat < ((↑es.length : Int) - (↑j : Int)).toNat) then bif cnt (↑es.length : Int) (IntKind.i64.wrap ((↑j : Int) + (1 : Int))) es.length && c82 then k (Ex.exit (2 : Nat)) c81 c80 else none else none else none else none else k (Ex.exit (2 : Nat)) [AV.ptr 1125899906842629 0, AV.ptr 384 0, AV.own 900, AV.slz (Sh.int IntKind.u8), AV.slv (Sh.agg [Sh.str, Sh.str]) es, AV.int IntKind.i64 (↑es.length : Int), AV.int IntKind.i64 (↑j : Int)] [some (Row.box false [AV.slv sa ea, AV.slv sb eb]), some (Row.box false [AV.int IntKind.i64 z0, AV.int IntKind.i64 z1]), some (Row.box false [AV.slv sc ec, AV.slv sd ed, AV.slv sg eg]), some (Row.box false [AV.int IntKind.i64 f0, AV.int IntKind.i64 f1]), some (Row.box false [AV.slz (Sh.int IntKind.u8)]), some (Row.box false [AV.slv sh eh, AV.slv si ei, AV.slv sj ej]), some (Row.box false [AV.slv sk ek, AV.slv sl el, AV.slv sm em]), some (Row.arr false (Sh.int IntKind.u8) (5 : Nat) out none)]) (by kernel_rfl) ?_
    conv => zeta
    rw [← hk]
    by_cases hlt : j < es.length
    · obtain ⟨e1, e2, e3, e4, e5⟩ := cnt_facts hlt hs
      have hov : (fN (es.getD j .unk)).length + (fV (es.getD j .unk)).length ≤ 50000 := of_decide_eq_true (List.all_eq_true.1 hall _ (by rw [getD_eq hlt]; exact List.getElem_mem hlt))
      have hok1 : small (fN (es.getD j .unk)).length = true := decide_eq_true (by omega)
      have hsR : small sRc.length = true := by decide
      have hsC : small cTE.length = true := by decide
      have hfl := fldF_len (fN (es.getD j .unk)) (fV (es.getD j .unk))
      have hbl : (bytesAV (fldF (fN (es.getD j .unk)) (fV (es.getD j .unk)))).length = (fldF (fN (es.getD j .unk)) (fV (es.getD j .unk))).length := bytesAV_length _
      have hF : bytesAV (fmS (es.drop j)) = bytesAV (bif !eqF (fN (es.getD j .unk)) sRc && !eqF (fN (es.getD j .unk)) cTE then fldF (fN (es.getD j .unk)) (fV (es.getD j .unk)) else []) ++ bytesAV (fmS (es.drop (j + 1))) := by rw [fmS_step hlt, bytes_app]
      rw [hF, e3, Int.toNat_natCast]
      refine Eq.trans (cond_t e1) (Eq.trans (cond_t e2) (Eq.trans (cond_t (and_t hok1 hsR)) ?_))
      have g0 : (cnt (es.length : Int) ((j + 1 : Nat) : Int) es.length && (decide ((out.length : Int) ≤ 200000 * ((j + 1 : Nat) : Int) ∧ es.length ≤ 1000 ∧ (5 : TypeId) = 5) && es.all okV)) = true := and_t e4 (and_t (decide_eq_true ⟨by omega, hn, rfl⟩) hall)
      cases eqF (fN (es.getD j .unk)) sRc
      · refine Eq.trans (cond_t rfl) (Eq.trans (cond_t (and_t hok1 hsC)) ?_)
        cases eqF (fN (es.getD j .unk)) cTE
        · refine Eq.trans (cond_t rfl) (Eq.trans (cond_t (decide_eq_true ⟨by omega, by omega⟩)) (Eq.trans (cond_t (room5 (by omega))) (Eq.trans (cond_t e5) (Eq.trans (cond_t (and_t e4 (and_t (decide_eq_true ⟨by rw [List.length_append]; omega, hn, rfl⟩) hall))) ?_))))
          rw [List.append_assoc]
          rfl
        · exact Eq.trans (cond_f rfl) (Eq.trans (cond_t e5) (cond_t g0))
      · exact Eq.trans (cond_f rfl) (Eq.trans (cond_t e5) (cond_t g0))
    · obtain rfl : j = es.length := by omega
      rw [decide_eq_false (by omega), List.drop_length]
      show _ = k _ _ [_, _, _, _, _, _, _, some (.arr false (.int .u8) 5 (out ++ []) none)]
      rw [List.append_nil]
      rfl
  · cases h
noncomputable def Y6 : SummX := evY Tryz.prog GY6 [(9, l29)] 6 (loopCode 6)
theorem y6 : YOK Tryz.prog 6 Y6 ∧ XNat Y6 := inY_ok gY6 hmix rfl (KOK.nil (by kernel_rfl)) (KOK.one (b := b29) (l := l29) (by kernel_rfl) (by kernel_rfl) loop29)
noncomputable def GY2 (key : Int) (Y : SummX) : Env := { pure := [], yld := some (key, 2, Y) }
noncomputable def Y2 (key : Int) (Y : SummX) : SummX := evY Tryz.prog (GY2 key Y) [] 2 (loopCode 2)
theorem y2 {key : Int} {Y : SummX} (hY : YOK Tryz.prog key Y ∧ XNat Y) (hn : 2 = (loopCode key).1.size) : YOK Tryz.prog 2 (Y2 key Y) ∧ XNat (Y2 key Y) := inY_ok (GOK.yields g0 hn hY) hmix rfl (KOK.nil (by kernel_rfl)) (KOK.nil (by kernel_rfl))
noncomputable def E84 (key : Int) (Y : SummX) : Env := { pure := [], opens := [(56, ofX F56), (90, inX Tryz.prog (E90 2 (Y2 key Y)) Tryz.f90)], rng := [(4, 2, 5000)] }
theorem rng84 : (Tryz.f84.body.map rngsOf) = some [loopCode 2] := by kernel_rfl
theorem k84 {key : Int} {Y : SummX} (hY : YOK Tryz.prog key Y ∧ XNat Y) (hn : 2 = (loopCode key).1.size) : XOK Tryz.prog 84 (inX Tryz.prog (E84 key Y) Tryz.f84) ∧ XNat (inX Tryz.prog (E84 key Y) Tryz.f84) :=
  inX_ok (GOK.flags (GOK.alsoX (GOK.alsoX g0 (k90 (y2 hY hn) (by kernel_rfl))) ok56)) hmix Tryz.func84 (rng_one rng84 rfl rfl)
def F51 : List AV → List Row → Tr XOut
  | [.agg [.slv (.agg [.str, .str]) es, .slv (.int .u8) bs, .slv (.agg [.slice (.agg [.str, .str]), .slice (.int .u8), .slice (.agg [.slice (.agg [.str, .str]), .slice (.int .u8), .slice (.agg [.slice (.agg [.str, .str]), .slice (.int .u8), .slice (.agg [.slice (.agg [.str, .str]), .slice (.int .u8), .slice (.agg [.slice .other, .slice .other, .slice .other])])])])]) []]], [] => .leaf (.fn 84 [.ptr RID 0], [], [.box false [.slv (.agg [.str, .str]) es, .slv (.int .u8) bs, .slv (.agg [.slice (.agg [.str, .str]), .slice (.int .u8), .slice (.agg [.slice (.agg [.str, .str]), .slice (.int .u8), .slice (.agg [.slice (.agg [.str, .str]), .slice (.int .u8), .slice (.agg [.slice (.agg [.str, .str]), .slice (.int .u8), .slice (.agg [.slice .other, .slice .other, .slice .other])])])])]) []]])
  | _, _ => .no
theorem ok51 : XOK Tryz.prog 51 (ofX F51) ∧ XNat (ofX F51) := by
  refine ⟨xsum0 (H := []) g0 Tryz.func51 (by kernel_rfl) fun ρ avs rows k r h => ?_, xnat_ofX _⟩
  change (F51 avs rows).run _ = some r at h
  unfold F51 at h
  split at h
  · rename_i es bs
    have hk := h
    refine ⟨by simp, fun rows' hsp => ?_⟩
    obtain rfl : rows' = [] := by cases rows' with | nil => rfl | cons a b => exact hsp.elim
    refine Eq.trans (b := k (AV.fn (84 : Nat) [AV.ptr 2251799813685248 0]) [] [Row.box false [AV.slv (Sh.agg [Sh.str, Sh.str]) es, AV.slv (Sh.int IntKind.u8) bs, AV.slv (Sh.agg [(Sh.agg [Sh.str, Sh.str]).slice, (Sh.int IntKind.u8).slice, (Sh.agg [(Sh.agg [Sh.str, Sh.str]).slice, (Sh.int IntKind.u8).slice, (Sh.agg [(Sh.agg [Sh.str, Sh.str]).slice, (Sh.int IntKind.u8).slice, (Sh.agg [(Sh.agg [Sh.str, Sh.str]).slice, (Sh.int IntKind.u8).slice, (Sh.agg [Sh.other.slice, Sh.other.slice, Sh.other.slice]).slice]).slice]).slice]).slice]) []]]) (by kernel_rfl) ?_
    exact hk
  · cases h
noncomputable def G29 : Env := { pure := [(50, ofT F50), (19, ofT F19), (15, ofT F15)], opens := [(51, ofX F51), (84, inX Tryz.prog (E84 6 Y6) Tryz.f84)], rng := [(7, 6, 5000)] }
theorem g29 : GOK Tryz.prog G29 := GOK.flags (GOK.alsoX (GOK.alsoX (GOK.also (GOK.also (GOK.also g0 ok15) ok19) ok50) (k84 y6 (by kernel_rfl))) ok51)
theorem rng29 : (Tryz.f29.body.map rngsOf) = some [loopCode 6] := by kernel_rfl
theorem bdy_len {cs : List AV} (h : cs.length ≤ 20000) : (bdyF cs).1.length ≤ 3000000 := by
  have hi := cbL_inv cs.length cs [] 0 (Int.le_refl _) (by show 0 + 2 * 0 + _ ≤ _; omega)
  unfold bdyF
  generalize cbL cs.length cs ([], 0) = q at hi ⊢
  obtain ⟨cs', out, e⟩ := q
  obtain ⟨i1, i2⟩ := hi
  simp only [] at i1 i2
  have hq := sqF_len (strAV cs')
  have hsl : (strAV cs').length = cs'.length := strAV_len cs'
  have hr := Lib.repeatL_length [13, 10] e.toNat
  have h22 : ([13, 10] : List UInt8).length = 2 := rfl
  rw [h22] at hr
  unfold rnd
  cases sqF (strAV cs') == []
  · show (out ++ bytesAV (Lib.repeatL [13, 10] e.toNat ++ sqF (strAV cs') ++ [13, 10])).length ≤ _
    rw [List.length_append, bytesAV_length, List.length_append, List.length_append, hr, h22]
    omega
  · show out.length ≤ _
    omega
noncomputable def frS (es bs : List AV) : List UInt8 := itS (([] : List AV).length : Int) ++ [32] ++ itS ((bytesAV (fmS es)).length : Int) ++ [32] ++ itS ((bdyF (cnV es bs)).1.length : Int) ++ [13, 10]
noncomputable def frm (es bs : List AV) : List AV := bytesAV (frS es bs) ++ bytesAV (fmS es) ++ (bdyF (cnV es bs)).1
noncomputable def F29 : List AV → Tr AV
  | [.agg [.slv (.agg [.str, .str]) es, .slv (.int .u8) bs]] => .gd (decide (es.length ≤ 1000 ∧ bs.length ≤ 1000000) && (es.all okF && (es.all okV && (es.all noT && (bs.all bE && (decide ((cnV es bs).length ≤ 20000) && (cnV es bs).all bE))))))
    (.br (vdC es bs != 0) (.leaf (.tup [.slv (.int .u8) [], .agg [.int .i64 (vdC es bs), .int .i64 (vdI es bs)]]))
      (.br (ckC es bs != 0) (.leaf (.tup [.slv (.int .u8) [], .agg [.int .i64 (ckC es bs), .int .i64 (-9)]]))
        (.leaf (.tup [.slv (.int .u8) (frm es bs), .agg [.int .i64 0, .int .i64 0]]))))
  | _ => .no
theorem ok29 : SumOK Tryz.prog 29 (ofT F29) ∧ SNat (ofT F29) := by
  refine ⟨sumOK_ofR g29 (drawOK g29 hmix) Tryz.func29 (fun ρ avs k r h => ⟨[], fun c hc => KOK.nil (by
      have h1 : Tryz.f29.body.map loopsOf = some [] := by kernel_rfl
      rw [hc] at h1
      simpa using h1), ?_⟩) (rng_one rng29 rfl rfl), snat_ofT _⟩
  change (F29 avs).run k = some r at h
  unfold F29 at h
  split at h
  · rename_i es bs
    obtain ⟨hc, hk⟩ := gd_some h
    refine Eq.trans (b := have c81 := (↑([] : List AV).length : Int); have c80 := (itS c81 ++ ([32] : List UInt8) ++ itS c81 ++ ([32] : List UInt8) ++ itS c81 ++ ([13, 10] : List UInt8)); have c83 := ([] ++ bytesAV (fmS (List.drop (0 : Nat) es))); have c82 := (itS c81 ++ ([32] : List UInt8) ++ itS (↑c83.length : Int) ++ ([32] : List UInt8) ++ itS (↑(bdyF (cnV es bs)).fst.length : Int) ++ ([13, 10] : List UInt8)); have c84 := ((itS c81 ++ ([32] : List UInt8) ++ itS c81 ++ ([32] : List UInt8) ++ itS c81).length + ([13, 10] : List UInt8).length); bif decide (es.length ≤ (1000000 : Nat) ∧ bs.length ≤ (1000000 : Nat)) && (es.all okF && es.all noT) then bif vdC es bs != (0 : Int) then bif vdC es bs != (0 : Int) then k (AV.tup [AV.slv (Sh.int IntKind.u8) [], AV.agg [AV.int IntKind.i64 (vdC es bs), AV.int IntKind.i64 (vdI es bs)]]) else bif lenB ((itS c81).length + ([32] : List UInt8).length) then bif lenB ((itS c81 ++ ([32] : List UInt8)).length + (itS c81).length) then bif lenB ((itS c81 ++ ([32] : List UInt8) ++ itS c81).length + ([32] : List UInt8).length) then bif lenB ((itS c81 ++ ([32] : List UInt8) ++ itS c81 ++ ([32] : List UInt8)).length + (itS c81).length) then bif lenB c84 then bif roomB (bytesAV c80).length (Tryz.prog.bytesOf 5) then bif roomB ((bytesAV c80).length + ([] : List AV).length) (Tryz.prog.bytesOf 5) then bif roomB ((bytesAV c80 ++ []).length + ([] : List AV).length) (Tryz.prog.bytesOf 5) then k (AV.tup [AV.slv (Sh.int IntKind.u8) (bytesAV c80 ++ [] ++ []), AV.agg [AV.int IntKind.i64 0, AV.int IntKind.i64 0]]) else none else none else none else none else none else none else none else none else bif ckC es bs != (0 : Int) then bif ckC es bs != (0 : Int) then k (AV.tup [AV.slv (Sh.int IntKind.u8) [], AV.agg [AV.int IntKind.i64 (ckC es bs), AV.int IntKind.i64 (-9 : Int)]]) else bif lenB ((itS c81).length + ([32] : List UInt8).length) then bif lenB ((itS c81 ++ ([32] : List UInt8)).length + (itS c81).length) then bif lenB ((itS c81 ++ ([32] : List UInt8) ++ itS c81).length + ([32] : List UInt8).length) then bif lenB ((itS c81 ++ ([32] : List UInt8) ++ itS c81 ++ ([32] : List UInt8)).length + (itS c81).length) then bif lenB c84 then bif roomB (bytesAV c80).length (Tryz.prog.bytesOf 5) then bif roomB ((bytesAV c80).length + ([] : List AV).length) (Tryz.prog.bytesOf 5) then bif roomB ((bytesAV c80 ++ []).length + ([] : List AV).length) (Tryz.prog.bytesOf 5) then k (AV.tup [AV.slv (Sh.int IntKind.u8) (bytesAV c80 ++ [] ++ []), AV.agg [AV.int IntKind.i64 0, AV.int IntKind.i64 0]]) else none else none else none else none else none else none else none else none else bif cnt (↑es.length : Int) (0 : Int) es.length && (decide (c81 ≤ (200000 : Int) * (0 : Int) ∧ es.length ≤ (1000 : Nat) ∧ ((9 : Nat), (900 : Nat), (5 : TypeId)).snd.snd = (5 : TypeId)) && es.all okV) then bif small es.length && (es.all okF && (small bs.length && bs.all bE)) then bif decide ((cnV es bs).length ≤ (20000 : Nat)) && (cnV es bs).all bE then bif lenB ((itS c81).length + ([32] : List UInt8).length) then bif inR (↑c83.length : Int) (-9223372036854775808 : Int) (9223372036854775807 : Int) then bif lenB ((itS c81 ++ ([32] : List UInt8)).length + (itS (↑c83.length : Int)).length) then bif lenB ((itS c81 ++ ([32] : List UInt8) ++ itS (↑c83.length : Int)).length + ([32] : List UInt8).length) then bif inR (↑(bdyF (cnV es bs)).fst.length : Int) (-9223372036854775808 : Int) (9223372036854775807 : Int) then bif lenB ((itS c81 ++ ([32] : List UInt8) ++ itS (↑c83.length : Int) ++ ([32] : List UInt8)).length + (itS (↑(bdyF (cnV es bs)).fst.length : Int)).length) then bif lenB ((itS c81 ++ ([32] : List UInt8) ++ itS (↑c83.length : Int) ++ ([32] : List UInt8) ++ itS (↑(bdyF (cnV es bs)).fst.length : Int)).length + ([13, 10] : List UInt8).length) then bif roomB (bytesAV c82).length (Tryz.prog.bytesOf 5) then bif roomB ((bytesAV c82).length + c83.length) (Tryz.prog.bytesOf 5) then bif roomB ((bytesAV c82 ++ c83).length + (bdyF (cnV es bs)).fst.length) (Tryz.prog.bytesOf 5) then k (AV.tup [AV.slv (Sh.int IntKind.u8) (bytesAV c82 ++ c83 ++ (bdyF (cnV es bs)).fst), AV.agg [AV.int IntKind.i64 0, AV.int IntKind.i64 0]]) else none else none else none else none else none else none else none else none else none else none else none else none else none else none) (by kernel_rfl) ?_
    conv => zeta
    rw [← hk]
    simp only [Bool.and_eq_true] at hc
    obtain ⟨hc, h3, h4, h5, h6, h7, h8⟩ := hc
    obtain ⟨h1, h2⟩ := of_decide_eq_true hc
    have h7' := of_decide_eq_true h7
    have hf := fmS_len es h4
    have hb := bdy_len h7'
    have i0 := itS_len (n := (([] : List AV).length : Int)) (by decide) (by decide)
    have hX1 : (bytesAV (fmS es)).length = (fmS es).length := bytesAV_length _
    have i1 := itS_len (n := ((bytesAV (fmS es)).length : Int)) (by omega) (by omega)
    have i2 := itS_len (n := ((bdyF (cnV es bs)).1.length : Int)) (by omega) (by omega)
    have l1 : ([32] : List UInt8).length = 1 := rfl
    have l2 : ([13, 10] : List UInt8).length = 2 := rfl
    refine Eq.trans (cond_t (and_t (decide_eq_true ⟨by omega, h2⟩) (and_t h3 h5))) ?_
    cases hv : vdC es bs != 0
    · refine Eq.trans (cond_f rfl) ?_
      cases hk2 : ckC es bs != 0
      · refine Eq.trans (cond_f rfl) (Eq.trans (cond_t (and_t (cnt_zero (decide_eq_true (by omega))) (and_t (decide_eq_true ⟨by decide, h1, rfl⟩) h4))) ?_)
        simp only [List.drop_zero, List.nil_append]
        refine Eq.trans (cond_t (and_t (decide_eq_true (by omega)) (and_t h3 (and_t (decide_eq_true (by omega)) h6)))) ?_
        refine Eq.trans (cond_t (and_t h7 h8)) ?_
        refine Eq.trans (cond_t (decide_eq_true (by rw [l1]; omega))) (Eq.trans (cond_t (inR_of (by omega) (by omega))) ?_)
        refine Eq.trans (cond_t (decide_eq_true (by rw [List.length_append, l1]; omega))) (Eq.trans (cond_t (decide_eq_true (by rw [List.length_append, List.length_append, l1]; omega))) (Eq.trans (cond_t (inR_of (by omega) (by omega))) ?_))
        refine Eq.trans (cond_t (decide_eq_true (by rw [List.length_append, List.length_append, List.length_append, l1]; omega))) (Eq.trans (cond_t (decide_eq_true (by rw [List.length_append, List.length_append, List.length_append, List.length_append, l1, l2]; omega))) ?_)
        have hfr : (bytesAV (frS es bs)).length ≤ 100 := by
          rw [bytesAV_length]
          unfold frS
          rw [List.length_append, List.length_append, List.length_append, List.length_append, List.length_append, l1, l2]
          omega
        exact Eq.trans (cond_t (room5 (by show (bytesAV (frS es bs)).length ≤ _; omega))) (Eq.trans (cond_t (room5 (by show (bytesAV (frS es bs)).length + _ ≤ _; omega))) (cond_t (room5 (by rw [List.length_append]; show (bytesAV (frS es bs)).length + _ + _ ≤ _; omega))))
      · rfl
    · rfl
  · cases h
end Go.Proofs.YtpmlhkoianekfaaGreatDoor
