/-
  A message encoded either way is the same message: the card.
-/
import Derived.Lib.SplitLaws
import Derived.Test.YtpmlhkoianekfaaGreatDoorEnZe
import Derived.Test.YtpmlhkoianekfaaGreatDoorEnB
import Derived.Defers
import Derived.Laws.Pointers
import Derived.Laws.LoneSync
import Derived.RegionTactic
import Derived.RegionCalls
import Derived.ChangeAlike
import Derived.Tactics2
import Derived.Test.YtpmlhkoianekfaaGreatDoorEnO
import Derived.LoopN
import Derived.Laws.NewBlocks
import Derived.Test.YtpmlhkoianekfaaGreatDoorEnV
import Derived.Laws.Cover4
import Derived.Test.YtpmlhkoianekfaaGreatDoorRows
import Derived.HandedShaped
import Derived.Shelf.Vars
import Derived.LaidMore
import Derived.Lay
import Derived.SevenTiedAt
import Derived.Lib.LaidU8
import Derived.Shelf.Unicode.PredsPay
import Derived.Test.YtpmlhkoianekfaaGreatDoorTie
import Derived.Test.YtpmlhkoianekfaaGreatDoorCards
import Derived.Stop.Joined
import Derived.JoinedOf

namespace Go.Proofs.YtpmlhkoianekfaaGreatDoor
open Go.Ev Go.RowKit
def F61 : List AV → Tr AV
  | [.str s, .str [13, 10], .str [10]] => .gd (decide (s.length ≤ 1000000)) (.leaf (.str (Lib.replaceAll s [13, 10] [10])))
  | _ => .no
theorem ok61 : SumOK Tryz.prog 61 (ofT F61) ∧ SNat (ofT F61) := by
  refine sum_flat (by kernel_rfl) fun ρ w S avs args k r hF hS hv h => ?_
  unfold F61 at h
  split at h
  · rename_i s
    obtain ⟨hc, h⟩ := gd_some h
    have hc := of_decide_eq_true hc
    obtain ⟨v, vs, rfl, h1, hv⟩ := hv.inv
    obtain ⟨u, us, rfl, h2, hv⟩ := hv.inv
    obtain ⟨z, zs, rfl, h3, hv⟩ := hv.inv
    obtain rfl := hv.inv_nil
    rw [h1.str_inv, h2.str_inv, h3.str_inv]
    obtain ⟨m, hm⟩ := hF.1
    have hsz : (ByteArray.mk s.toArray).size = s.length := size_mk _
    have hcn := Lib.countB_le ⟨([13, 10] : List UInt8).toArray⟩ (by decide) s.length ⟨s.toArray⟩ (by omega)
    have hn1 : (ByteArray.mk ([10] : List UInt8).toArray).size = 1 := rfl
    exact ⟨_, _, h, rfl, .str _ _, (Tryz.strings_ReplaceAll ⟨s.toArray⟩ ⟨([13, 10] : List UInt8).toArray⟩ ⟨([10] : List UInt8).toArray⟩ m w (by omega) hm (by decide) (by rw [hn1]; omega)).mono fun e w' hq => ⟨by simpa using hq.1, hq.2⟩⟩
  · cases h
noncomputable def G147 : Env := { pure := [], conv := true }
theorem g147 : GOK Tryz.prog G147 := GOK.flags g0
def F147 : List AV → Tr AV
  | [.slv (.int .u8) bs] => .gd (decide (bs.length ≤ 1000000)) (.leaf (.slv (.int .i32) (runesAV (strAV bs))))
  | _ => .no
theorem ok147 : SumOK Tryz.prog 147 (ofT F147) ∧ SNat (ofT F147) := by
  refine fn0 g147 Tryz.func147 (by kernel_rfl) fun ρ avs k r h => ?_
  unfold F147 at h
  split at h
  · rename_i bs
    obtain ⟨hc, hk⟩ := gd_some h
    refine Eq.trans (b := bif decide ((strAV bs).length ≤ (1000000 : Nat)) then k (AV.slv (Sh.int IntKind.i32) (runesAV (strAV bs))) else none) (by kernel_rfl) ?_
    rw [← hk]
    exact cond_t (decide_eq_true (by rw [strAV_len]; exact of_decide_eq_true hc))
  · cases h
noncomputable def G97 : Env := { pure := [(24, ofT F24), (146, evF Tryz.prog G0 [] Tryz.f146)] }
theorem g97 : GOK Tryz.prog G97 := GOK.also (GOK.also g0 (inl g0 Tryz.func146 (by kernel_rfl))) ok24
noncomputable def b97 : Code := ((Tryz.f97.body.map loopsOf).getD []).headD .skip
def su8 : List UInt8 := [117, 116, 102, 56]
def L97 : List AV → List (Option Row) → Tr LOut
  | [.str s, .ptr 0 0, .bool b, .own 68, .int .i64 n, .int .i64 i], [some (.box false [.str z, .nl, .nl]), some (.arr false (.agg [.str, .other, .other]) 162 [.agg [.str n0, .fn 200 [.ref [.int .i32 m0]], .fn 201 [.ref [.int .i32 p0]]], .agg [.str n1, .fn 200 [.ref [.int .i32 m1]], .fn 201 [.ref [.int .i32 p1]]], .agg [.str n2, .fn 147 [], .fn 148 []], .agg [.str n3, .fn 150 [], .fn 151 []]] none)] =>
    .gd (decide (n = 4 ∧ 0 ≤ i ∧ i ≤ 4) && (small s.length && (small n0.length && (small n1.length && (small n2.length && small n3.length)))))
      (.br (decide (i ≤ 0) && eqF n0 s) (.leaf (.ret, [.str s, .ptr 0 0, .bool true, .own 68, .int .i64 4, .int .i64 0], [some (.box false [.str n0, .fn 200 [.ref [.int .i32 m0]], .fn 201 [.ref [.int .i32 p0]]]), some (.arr false (.agg [.str, .other, .other]) 162 [.agg [.str n0, .fn 200 [.ref [.int .i32 m0]], .fn 201 [.ref [.int .i32 p0]]], .agg [.str n1, .fn 200 [.ref [.int .i32 m1]], .fn 201 [.ref [.int .i32 p1]]], .agg [.str n2, .fn 147 [], .fn 148 []], .agg [.str n3, .fn 150 [], .fn 151 []]] none)]))
      (.br (decide (i ≤ 1) && eqF n1 s) (.leaf (.ret, [.str s, .ptr 0 0, .bool true, .own 68, .int .i64 4, .int .i64 1], [some (.box false [.str n1, .fn 200 [.ref [.int .i32 m1]], .fn 201 [.ref [.int .i32 p1]]]), some (.arr false (.agg [.str, .other, .other]) 162 [.agg [.str n0, .fn 200 [.ref [.int .i32 m0]], .fn 201 [.ref [.int .i32 p0]]], .agg [.str n1, .fn 200 [.ref [.int .i32 m1]], .fn 201 [.ref [.int .i32 p1]]], .agg [.str n2, .fn 147 [], .fn 148 []], .agg [.str n3, .fn 150 [], .fn 151 []]] none)]))
      (.br (decide (i ≤ 2) && eqF n2 s) (.leaf (.ret, [.str s, .ptr 0 0, .bool true, .own 68, .int .i64 4, .int .i64 2], [some (.box false [.str n2, .fn 147 [], .fn 148 []]), some (.arr false (.agg [.str, .other, .other]) 162 [.agg [.str n0, .fn 200 [.ref [.int .i32 m0]], .fn 201 [.ref [.int .i32 p0]]], .agg [.str n1, .fn 200 [.ref [.int .i32 m1]], .fn 201 [.ref [.int .i32 p1]]], .agg [.str n2, .fn 147 [], .fn 148 []], .agg [.str n3, .fn 150 [], .fn 151 []]] none)]))
      (.br (decide (i ≤ 3) && eqF n3 s) (.leaf (.ret, [.str s, .ptr 0 0, .bool true, .own 68, .int .i64 4, .int .i64 3], [some (.box false [.str n3, .fn 150 [], .fn 151 []]), some (.arr false (.agg [.str, .other, .other]) 162 [.agg [.str n0, .fn 200 [.ref [.int .i32 m0]], .fn 201 [.ref [.int .i32 p0]]], .agg [.str n1, .fn 200 [.ref [.int .i32 m1]], .fn 201 [.ref [.int .i32 p1]]], .agg [.str n2, .fn 147 [], .fn 148 []], .agg [.str n3, .fn 150 [], .fn 151 []]] none)]))
      (.leaf (.exit 0, [.str s, .ptr 0 0, .bool b, .own 68, .int .i64 4, .int .i64 4], [some (.box false [.str z, .nl, .nl]), some (.arr false (.agg [.str, .other, .other]) 162 [.agg [.str n0, .fn 200 [.ref [.int .i32 m0]], .fn 201 [.ref [.int .i32 p0]]], .agg [.str n1, .fn 200 [.ref [.int .i32 m1]], .fn 201 [.ref [.int .i32 p1]]], .agg [.str n2, .fn 147 [], .fn 148 []], .agg [.str n3, .fn 150 [], .fn 151 []]] none)]))))))
  | _, _ => .no
def l97 : Ev.Loop := ⟨{ len := 25, slots := [0, 2, 3, 12, 13, 14], rows := [0, 68] }, ofL L97⟩
theorem loop97 : LoopOK Tryz.prog G97 [(3, l97)] b97 l97 := by
  refine loopT g97.natOK rfl (KOK.nil (by kernel_rfl)) μ42 (fun ρ vs rs k r h => ?_)
  unfold L97 at h
  split at h
  · rename_i s b n i z n0 m0 p0 n1 m1 p1 n2 n3
    obtain ⟨hc, hk⟩ := gd_some h
    simp only [Bool.and_eq_true] at hc
    obtain ⟨hc, h0, h1, h2, h3, h4⟩ := hc
    obtain ⟨rfl, hi0, hi4⟩ := of_decide_eq_true hc
    rcases (by omega : i = 0 ∨ i = 1 ∨ i = 2 ∨ i = 3 ∨ i = 4) with rfl | rfl | rfl | rfl | rfl
    · skip
      refine Eq.trans (b := have c80 := (Row.arr false (Sh.agg [Sh.str, Sh.other, Sh.other]) (162 : Nat) [AV.agg [AV.str n0, AV.fn (200 : Nat) [AV.ref [AV.int IntKind.i32 m0]], AV.fn (201 : Nat) [AV.ref [AV.int IntKind.i32 p0]]], AV.agg [AV.str n1, AV.fn (200 : Nat) [AV.ref [AV.int IntKind.i32 m1]], AV.fn (201 : Nat) [AV.ref [AV.int IntKind.i32 p1]]], AV.agg [AV.str n2, AV.fn (147 : Nat) [], AV.fn (148 : Nat) []], AV.agg [AV.str n3, AV.fn (150 : Nat) [], AV.fn (151 : Nat) []]] none); have c81 := ([AV.str n0, AV.fn (200 : Nat) [AV.ref [AV.int IntKind.i32 m0]], AV.fn (201 : Nat) [AV.ref [AV.int IntKind.i32 p0]]].headD AV.unk); bif small c81.toStr.length && small s.length then bif eqF c81.toStr s then k Ex.ret [AV.str s, AV.ptr 0 0, AV.bool true, AV.own 68, AV.int IntKind.i64 4, AV.int IntKind.i64 0] [some (Row.box false [AV.str c81.toStr, AV.fn (200 : Nat) [AV.ref [AV.int IntKind.i32 m0]], AV.fn (201 : Nat) [AV.ref [AV.int IntKind.i32 p0]]]), some c80] else bif decide ((4 : Int) = (4 : Int) ∧ (0 : Int) ≤ IntKind.i64.wrap ((0 : Int) + (1 : Int)) ∧ IntKind.i64.wrap ((0 : Int) + (1 : Int)) ≤ (4 : Int)) && (small s.length && (small n0.length && (small n1.length && (small n2.length && small n3.length)))) then bif decide (IntKind.i64.wrap ((0 : Int) + (1 : Int)) ≤ (1 : Int)) && eqF n1 s then k Ex.ret [AV.str s, AV.ptr 0 0, AV.bool true, AV.own 68, AV.int IntKind.i64 4, AV.int IntKind.i64 1] [some (Row.box false [AV.str n1, AV.fn (200 : Nat) [AV.ref [AV.int IntKind.i32 m1]], AV.fn (201 : Nat) [AV.ref [AV.int IntKind.i32 p1]]]), some c80] else bif decide (IntKind.i64.wrap ((0 : Int) + (1 : Int)) ≤ (2 : Int)) && eqF n2 s then k Ex.ret [AV.str s, AV.ptr 0 0, AV.bool true, AV.own 68, AV.int IntKind.i64 4, AV.int IntKind.i64 2] [some (Row.box false [AV.str n2, AV.fn (147 : Nat) [], AV.fn (148 : Nat) []]), some c80] else bif decide (IntKind.i64.wrap ((0 : Int) + (1 : Int)) ≤ (3 : Int)) && eqF n3 s then k Ex.ret [AV.str s, AV.ptr 0 0, AV.bool true, AV.own 68, AV.int IntKind.i64 4, AV.int IntKind.i64 3] [some (Row.box false [AV.str n3, AV.fn (150 : Nat) [], AV.fn (151 : Nat) []]), some c80] else k (Ex.exit (0 : Nat)) [AV.str s, AV.ptr 0 0, AV.bool b, AV.own 68, AV.int IntKind.i64 4, AV.int IntKind.i64 4] [some (Row.box false [AV.str z, AV.nl, AV.nl]), some c80] else none else none) (by kernel_rfl) ?_
      conv => zeta
      rw [← hk]
      refine Eq.trans (cond_t (and_t h1 h0)) ?_
      rw [h0, h1, h2, h3, h4]
      show (bif eqF n0 s then _ else _) = _
      cases eqF n0 s <;> rfl
    · skip
      refine Eq.trans (b := have c80 := (Row.arr false (Sh.agg [Sh.str, Sh.other, Sh.other]) (162 : Nat) [AV.agg [AV.str n0, AV.fn (200 : Nat) [AV.ref [AV.int IntKind.i32 m0]], AV.fn (201 : Nat) [AV.ref [AV.int IntKind.i32 p0]]], AV.agg [AV.str n1, AV.fn (200 : Nat) [AV.ref [AV.int IntKind.i32 m1]], AV.fn (201 : Nat) [AV.ref [AV.int IntKind.i32 p1]]], AV.agg [AV.str n2, AV.fn (147 : Nat) [], AV.fn (148 : Nat) []], AV.agg [AV.str n3, AV.fn (150 : Nat) [], AV.fn (151 : Nat) []]] none); have c81 := ([AV.str n1, AV.fn (200 : Nat) [AV.ref [AV.int IntKind.i32 m1]], AV.fn (201 : Nat) [AV.ref [AV.int IntKind.i32 p1]]].headD AV.unk); bif small c81.toStr.length && small s.length then bif eqF c81.toStr s then k Ex.ret [AV.str s, AV.ptr 0 0, AV.bool true, AV.own 68, AV.int IntKind.i64 4, AV.int IntKind.i64 1] [some (Row.box false [AV.str c81.toStr, AV.fn (200 : Nat) [AV.ref [AV.int IntKind.i32 m1]], AV.fn (201 : Nat) [AV.ref [AV.int IntKind.i32 p1]]]), some c80] else bif decide ((4 : Int) = (4 : Int) ∧ (0 : Int) ≤ IntKind.i64.wrap ((1 : Int) + (1 : Int)) ∧ IntKind.i64.wrap ((1 : Int) + (1 : Int)) ≤ (4 : Int)) && (small s.length && (small n0.length && (small n1.length && (small n2.length && small n3.length)))) then bif decide (IntKind.i64.wrap ((1 : Int) + (1 : Int)) ≤ (2 : Int)) && eqF n2 s then k Ex.ret [AV.str s, AV.ptr 0 0, AV.bool true, AV.own 68, AV.int IntKind.i64 4, AV.int IntKind.i64 2] [some (Row.box false [AV.str n2, AV.fn (147 : Nat) [], AV.fn (148 : Nat) []]), some c80] else bif decide (IntKind.i64.wrap ((1 : Int) + (1 : Int)) ≤ (3 : Int)) && eqF n3 s then k Ex.ret [AV.str s, AV.ptr 0 0, AV.bool true, AV.own 68, AV.int IntKind.i64 4, AV.int IntKind.i64 3] [some (Row.box false [AV.str n3, AV.fn (150 : Nat) [], AV.fn (151 : Nat) []]), some c80] else k (Ex.exit (0 : Nat)) [AV.str s, AV.ptr 0 0, AV.bool b, AV.own 68, AV.int IntKind.i64 4, AV.int IntKind.i64 4] [some (Row.box false [AV.str z, AV.nl, AV.nl]), some c80] else none else none) (by kernel_rfl) ?_
      conv => zeta
      rw [← hk]
      refine Eq.trans (cond_t (and_t h2 h0)) ?_
      rw [h0, h1, h2, h3, h4]
      show (bif eqF n1 s then _ else _) = _
      cases eqF n1 s <;> rfl
    · skip
      refine Eq.trans (b := have c80 := (Row.arr false (Sh.agg [Sh.str, Sh.other, Sh.other]) (162 : Nat) [AV.agg [AV.str n0, AV.fn (200 : Nat) [AV.ref [AV.int IntKind.i32 m0]], AV.fn (201 : Nat) [AV.ref [AV.int IntKind.i32 p0]]], AV.agg [AV.str n1, AV.fn (200 : Nat) [AV.ref [AV.int IntKind.i32 m1]], AV.fn (201 : Nat) [AV.ref [AV.int IntKind.i32 p1]]], AV.agg [AV.str n2, AV.fn (147 : Nat) [], AV.fn (148 : Nat) []], AV.agg [AV.str n3, AV.fn (150 : Nat) [], AV.fn (151 : Nat) []]] none); bif small ([AV.str n2, AV.fn (147 : Nat) [], AV.fn (148 : Nat) []].headD AV.unk).toStr.length && small s.length then bif eqF ([AV.str n2, AV.fn (147 : Nat) [], AV.fn (148 : Nat) []].headD AV.unk).toStr s then k Ex.ret [AV.str s, AV.ptr 0 0, AV.bool true, AV.own 68, AV.int IntKind.i64 4, AV.int IntKind.i64 2] [some (Row.box false [AV.str ([AV.str n2, AV.fn (147 : Nat) [], AV.fn (148 : Nat) []].headD AV.unk).toStr, AV.fn (147 : Nat) [], AV.fn (148 : Nat) []]), some c80] else bif decide ((4 : Int) = (4 : Int) ∧ (0 : Int) ≤ IntKind.i64.wrap ((2 : Int) + (1 : Int)) ∧ IntKind.i64.wrap ((2 : Int) + (1 : Int)) ≤ (4 : Int)) && (small s.length && (small n0.length && (small n1.length && (small n2.length && small n3.length)))) then bif decide (IntKind.i64.wrap ((2 : Int) + (1 : Int)) ≤ (3 : Int)) && eqF n3 s then k Ex.ret [AV.str s, AV.ptr 0 0, AV.bool true, AV.own 68, AV.int IntKind.i64 4, AV.int IntKind.i64 3] [some (Row.box false [AV.str n3, AV.fn (150 : Nat) [], AV.fn (151 : Nat) []]), some c80] else k (Ex.exit (0 : Nat)) [AV.str s, AV.ptr 0 0, AV.bool b, AV.own 68, AV.int IntKind.i64 4, AV.int IntKind.i64 4] [some (Row.box false [AV.str z, AV.nl, AV.nl]), some c80] else none else none) (by kernel_rfl) ?_
      conv => zeta
      rw [← hk]
      refine Eq.trans (cond_t (and_t h3 h0)) ?_
      rw [h0, h1, h2, h3, h4]
      show (bif eqF n2 s then _ else _) = _
      cases eqF n2 s <;> rfl
    · skip
      refine Eq.trans (b := have c80 := (Row.arr false (Sh.agg [Sh.str, Sh.other, Sh.other]) (162 : Nat) [AV.agg [AV.str n0, AV.fn (200 : Nat) [AV.ref [AV.int IntKind.i32 m0]], AV.fn (201 : Nat) [AV.ref [AV.int IntKind.i32 p0]]], AV.agg [AV.str n1, AV.fn (200 : Nat) [AV.ref [AV.int IntKind.i32 m1]], AV.fn (201 : Nat) [AV.ref [AV.int IntKind.i32 p1]]], AV.agg [AV.str n2, AV.fn (147 : Nat) [], AV.fn (148 : Nat) []], AV.agg [AV.str n3, AV.fn (150 : Nat) [], AV.fn (151 : Nat) []]] none); bif small ([AV.str n3, AV.fn (150 : Nat) [], AV.fn (151 : Nat) []].headD AV.unk).toStr.length && small s.length then bif eqF ([AV.str n3, AV.fn (150 : Nat) [], AV.fn (151 : Nat) []].headD AV.unk).toStr s then k Ex.ret [AV.str s, AV.ptr 0 0, AV.bool true, AV.own 68, AV.int IntKind.i64 4, AV.int IntKind.i64 3] [some (Row.box false [AV.str ([AV.str n3, AV.fn (150 : Nat) [], AV.fn (151 : Nat) []].headD AV.unk).toStr, AV.fn (150 : Nat) [], AV.fn (151 : Nat) []]), some c80] else bif decide ((4 : Int) = (4 : Int) ∧ (0 : Int) ≤ IntKind.i64.wrap ((3 : Int) + (1 : Int)) ∧ IntKind.i64.wrap ((3 : Int) + (1 : Int)) ≤ (4 : Int)) && (small s.length && (small n0.length && (small n1.length && (small n2.length && small n3.length)))) then k (Ex.exit (0 : Nat)) [AV.str s, AV.ptr 0 0, AV.bool b, AV.own 68, AV.int IntKind.i64 4, AV.int IntKind.i64 4] [some (Row.box false [AV.str z, AV.nl, AV.nl]), some c80] else none else none) (by kernel_rfl) ?_
      conv => zeta
      rw [← hk]
      refine Eq.trans (cond_t (and_t h4 h0)) ?_
      rw [h0, h1, h2, h3, h4]
      show (bif eqF n3 s then _ else _) = _
      cases eqF n3 s <;> rfl
    · skip
      refine Eq.trans (b := k (Ex.exit (0 : Nat)) [AV.str s, AV.ptr 0 0, AV.bool b, AV.own 68, AV.int IntKind.i64 4, AV.int IntKind.i64 4] [some (Row.box false [AV.str z, AV.nl, AV.nl]), some (Row.arr false (Sh.agg [Sh.str, Sh.other, Sh.other]) (162 : Nat) [AV.agg [AV.str n0, AV.fn (200 : Nat) [AV.ref [AV.int IntKind.i32 m0]], AV.fn (201 : Nat) [AV.ref [AV.int IntKind.i32 p0]]], AV.agg [AV.str n1, AV.fn (200 : Nat) [AV.ref [AV.int IntKind.i32 m1]], AV.fn (201 : Nat) [AV.ref [AV.int IntKind.i32 p1]]], AV.agg [AV.str n2, AV.fn (147 : Nat) [], AV.fn (148 : Nat) []], AV.agg [AV.str n3, AV.fn (150 : Nat) [], AV.fn (151 : Nat) []]] none)]) (by kernel_rfl) ?_
      rw [← hk]
      rfl
  · cases h
def F97 : List AV → Tr AV
  | [.str s] => .br (s == []) (.leaf (.tup [.agg [.str [], .nl, .nl], .bool false])) (.gd (s == su8) (.leaf (.tup [.agg [.str su8, .fn 147 [], .fn 148 []], .bool true])))
  | _ => .no
theorem ok97 : SumOK Tryz.prog 97 (ofT F97) ∧ SNat (ofT F97) := by
  refine fn1 (K := [(3, l97)]) (b := b97) (l := l97) g97 Tryz.func97 (by kernel_rfl) (by kernel_rfl) loop97 fun ρ avs k r h => ?_
  unfold F97 at h
  split at h
  · rename_i s
    have h' : (bif s == [] then k (.tup [.agg [.str [], .nl, .nl], .bool false]) else bif s == su8 then k (.tup [.agg [.str su8, .fn 147 [], .fn 148 []], .bool true]) else none) = some r := h
    refine Eq.trans (b := have c80 := [(117 : UInt8), (116 : UInt8), (102 : UInt8), (49 : UInt8), (54 : UInt8), (98 : UInt8), (101 : UInt8)]; have c81 := [(108 : UInt8), (97 : UInt8), (116 : UInt8), (105 : UInt8), (110 : UInt8), (49 : UInt8)]; have c82 := [(97 : UInt8), (115 : UInt8), (99 : UInt8), (105 : UInt8), (105 : UInt8)]; bif decide ((↑[AV.agg [AV.str c82, AV.fn (200 : Nat) [AV.ref [AV.int IntKind.i32 128]], AV.fn (201 : Nat) [AV.ref [AV.int IntKind.i32 128]]], AV.agg [AV.str c81, AV.fn (200 : Nat) [AV.ref [AV.int IntKind.i32 256]], AV.fn (201 : Nat) [AV.ref [AV.int IntKind.i32 256]]], AV.agg [AV.str su8, AV.fn (147 : Nat) [], AV.fn (148 : Nat) []], AV.agg [AV.str c80, AV.fn (150 : Nat) [], AV.fn (151 : Nat) []]].length : Int) = (4 : Int) ∧ (0 : Int) ≤ (0 : Int) ∧ (0 : Int) ≤ (4 : Int)) && (small s.length && (small (c82 : List UInt8).length && (small (c81 : List UInt8).length && (small su8.length && small (c80 : List UInt8).length)))) then bif decide ((0 : Int) ≤ (0 : Int)) && eqF (c82 : List UInt8) s then k (AV.tup [AV.agg [AV.str c82, AV.fn (200 : Nat) [AV.ref [AV.int IntKind.i32 128]], AV.fn (201 : Nat) [AV.ref [AV.int IntKind.i32 128]]], AV.bool true]) else bif decide ((0 : Int) ≤ (1 : Int)) && eqF (c81 : List UInt8) s then k (AV.tup [AV.agg [AV.str c81, AV.fn (200 : Nat) [AV.ref [AV.int IntKind.i32 256]], AV.fn (201 : Nat) [AV.ref [AV.int IntKind.i32 256]]], AV.bool true]) else bif decide ((0 : Int) ≤ (2 : Int)) && eqF su8 s then k (AV.tup [AV.agg [AV.str su8, AV.fn (147 : Nat) [], AV.fn (148 : Nat) []], AV.bool true]) else bif decide ((0 : Int) ≤ (3 : Int)) && eqF (c80 : List UInt8) s then k (AV.tup [AV.agg [AV.str c80, AV.fn (150 : Nat) [], AV.fn (151 : Nat) []], AV.bool true]) else k (AV.tup [AV.agg [AV.str [], AV.nl, AV.nl], AV.bool false]) else none) (by kernel_rfl) ?_
    conv => zeta
    cases h0 : s == []
    · rw [h0, cond_false] at h'
      cases h1 : s == su8
      · rw [h1] at h'; cases h'
      · rw [h1, cond_true] at h'
        obtain rfl : s = su8 := eq_of_beq h1
        exact h'
    · rw [h0, cond_true] at h'
      obtain rfl : s = [] := eq_of_beq h0
      exact h'
  · cases h
noncomputable def G60 : Env := { pure := [(97, ofT F97), (147, ofT F147), (13, ofT F13), (15, ofT F15)], conv := true }
theorem g60 : GOK Tryz.prog G60 := GOK.flags (GOK.also (GOK.also (GOK.also (GOK.also g0 ok15) ok13) ok147) ok97)
def rtS (bs : List AV) : List UInt8 := runeStr (runesAV (strAV bs))
def F60 : List AV → Tr AV
  | [.str s, .slv (.int .u8) bs] => .gd (decide (bs.length ≤ 12000)) (.br (s == []) (.leaf (.tup [.str [], .agg [.int .i64 18, .int .i64 (-2)]])) (.gd (s == su8) (.leaf (.tup [.str (rtS bs), .agg [.int .i64 0, .int .i64 0]]))))
  | _ => .no
theorem ok60 : SumOK Tryz.prog 60 (ofT F60) ∧ SNat (ofT F60) := by
  refine fn0 g60 Tryz.func60 (by kernel_rfl) fun ρ avs k r h => ?_
  unfold F60 at h
  split at h
  · rename_i s bs
    obtain ⟨hc, h⟩ := gd_some h
    have hc := of_decide_eq_true hc
    have h' : (bif s == [] then k (.tup [.str [], .agg [.int .i64 18, .int .i64 (-2)]]) else bif s == su8 then k (.tup [.str (rtS bs), .agg [.int .i64 0, .int .i64 0]]) else none) = some r := h
    refine Eq.trans (b := bif decide ((↑bs.length : Int) > (12000 : Int)) then k (AV.tup [AV.str [], AV.agg [AV.int IntKind.i64 1, AV.int IntKind.i64 (-1 : Int)]]) else bif s == [] then k (AV.tup [AV.str [], AV.agg [AV.int IntKind.i64 18, AV.int IntKind.i64 (-2 : Int)]]) else bif s == su8 then bif decide (bs.length ≤ (1000000 : Nat)) then k (AV.tup [AV.str (runeStr (runesAV (strAV bs))), AV.agg [AV.int IntKind.i64 0, AV.int IntKind.i64 0]]) else none else none) (by kernel_rfl) ?_
    have d12 : decide ((bs.length : Int) > 12000) = false := decide_eq_false (by omega)
    rw [d12, ← h']
    cases s == []
    · cases s == su8
      · rfl
      · exact Eq.trans (cond_f rfl) (Eq.trans (cond_f rfl) (cond_t (decide_eq_true (by omega))))
    · rfl
  · cases h
noncomputable def G58 : Env := { pure := [(95, ofT F95)] }
theorem g58 : GOK Tryz.prog G58 := GOK.also g0 ok95
def F58 : List AV → Tr AV
  | [.agg [.slv (.agg [.str, .str]) es, .slv (.int .u8) _bs, .slv (.agg [.slice (.agg [.str, .str]), .slice (.int .u8), .slice (.agg [.slice (.agg [.str, .str]), .slice (.int .u8), .slice (.agg [.slice (.agg [.str, .str]), .slice (.int .u8), .slice (.agg [.slice (.agg [.str, .str]), .slice (.int .u8), .slice (.agg [.slice .other, .slice .other, .slice .other])])])])]) []]] => .gd (small es.length && (es.all okF && es.all noT)) (.leaf (.agg [.str [116, 101, 120, 116], .str [112, 108, 97, 105, 110], .slv (.agg [.str, .str]) []]))
  | _ => .no
theorem ok58 : SumOK Tryz.prog 58 (ofT F58) ∧ SNat (ofT F58) := by
  refine fn0 g58 Tryz.func58 (by kernel_rfl) fun ρ avs k r h => ?_
  unfold F58 at h
  split at h
  · rename_i es bs
    obtain ⟨hc, hk⟩ := gd_some h
    refine Eq.trans (b := bif small es.length && (es.all okF && es.all noT) then k (AV.agg [AV.str [(116 : UInt8), (101 : UInt8), (120 : UInt8), (116 : UInt8)], AV.str [(112 : UInt8), (108 : UInt8), (97 : UInt8), (105 : UInt8), (110 : UInt8)], AV.slv (Sh.agg [Sh.str, Sh.str]) []]) else none) (by kernel_rfl) ?_
    rw [← hk]
    exact cond_t hc
  · cases h
theorem inU {Γ : Env} (hΓ : GOK Tryz.prog Γ) {f : Nat} {fn : Func} (hfn : Tryz.prog.funcs[f]? = some fn) (hfk : Γ.fork = false := by rfl) (hrg : Γ.rng = [] := by rfl) : SumOK Tryz.prog f (evF Tryz.prog Γ [] fn) ∧ SNat (evF Tryz.prog Γ [] fn) :=
  ⟨sumOK_inline hΓ (drawOK hΓ hmix) hfn (fun c _ b _ l hl => by cases hl) hrg, snat_evF hΓ.natOK hfk (fun c _ b _ l hl => by cases hl)⟩
noncomputable def G99u : Env := { pure := [(155, Fidx)] }
theorem g99u : GOK Tryz.prog G99u := GOK.also g0 (idx_ok (fn := Tryz.f155) Tryz.func155 (by kernel_rfl) (by kernel_rfl) (by kernel_rfl) (by kernel_rfl))
noncomputable def G62u : Env := { pure := [(99, evF Tryz.prog G99u [] Tryz.f99)] }
theorem g62u : GOK Tryz.prog G62u := GOK.also g0 (inU g99u Tryz.func99)
noncomputable def G197u : Env := { pure := [(62, evF Tryz.prog G62u [] Tryz.f62)] }
theorem g197u : GOK Tryz.prog G197u := GOK.also g0 (inU g62u Tryz.func62)
noncomputable def G160u : Env := { pure := [(197, evF Tryz.prog G197u [] Tryz.f197)], unroll := 20 }
theorem g160u : GOK Tryz.prog G160u := GOK.flags (GOK.also g0 (inU g197u Tryz.func197))
noncomputable def G142u : Env := { pure := [(160, evF Tryz.prog G160u [] Tryz.f160)] }
theorem g142u : GOK Tryz.prog G142u := GOK.also g0 (inU g160u Tryz.func160)
noncomputable def G96u : Env := { pure := [(142, evF Tryz.prog G142u [] Tryz.f142), (15, ofT F15)], unroll := 1 }
theorem g96u : GOK Tryz.prog G96u := GOK.flags (GOK.also (GOK.also g0 ok15) (inU g142u Tryz.func142))
noncomputable def G59u : Env := { pure := [(96, evF Tryz.prog G96u [] Tryz.f96), (19, ofT F19), (15, ofT F15)], unroll := 1 }
theorem g59u : GOK Tryz.prog G59u := GOK.flags (GOK.also (GOK.also (GOK.also g0 ok15) ok19) (inU g96u Tryz.func96))
def F59 : List AV → Tr AV
  | [.agg [.str [116, 101, 120, 116], .str [112, 108, 97, 105, 110], .slv (.agg [.str, .str]) []], .str _s] => .leaf (.tup [.str [], .bool false, .agg [.int .i64 0, .int .i64 0]])
  | _ => .no
theorem ok59 : SumOK Tryz.prog 59 (ofT F59) ∧ SNat (ofT F59) := by
  refine ⟨fun ρ w S avs args k r hS hv h => (inU g59u Tryz.func59).1 ρ w S avs args k r hS hv ?_, snat_ofT F59⟩
  have h' : (F59 avs).run k = some r := h
  unfold F59 at h'
  split at h'
  · rename_i s
    refine Eq.trans (b := k (AV.tup [AV.str [], AV.bool false, AV.agg [AV.int IntKind.i64 (0 : Int), AV.int IntKind.i64 (0 : Int)]])) (by kernel_rfl) ?_
    exact h'
  · cases h'
end Go.Proofs.YtpmlhkoianekfaaGreatDoor


namespace Go.Proofs.YtpmlhkoianekfaaGreatDoor
open Go.Ev
theorem disable (w : World) : (callFunc 273 #[]).run Tryz.prog w = .ok (.value (.tuple #[])) w := run_call_mark0 Tryz.func273 (by kernel_rfl) (by kernel_rfl) (by kernel_rfl) .disable (by kernel_rfl) w
theorem enable (w : World) : (callFunc 275 #[]).run Tryz.prog w = .ok (.value (.tuple #[])) w := run_call_mark0 Tryz.func275 (by kernel_rfl) (by kernel_rfl) (by kernel_rfl) .enable (by kernel_rfl) w
theorem acquire (a : Addr) (w : World) : (callFunc 276 #[.pointer (some a)]).run Tryz.prog w = .ok (.value (.tuple #[])) w := run_call_marked Tryz.func276 (by kernel_rfl) (by kernel_rfl) (by kernel_rfl) .acquire (by kernel_rfl) a w
theorem releaseMerge (a : Addr) (w : World) : (callFunc 278 #[.pointer (some a)]).run Tryz.prog w = .ok (.value (.tuple #[])) w := run_call_marked Tryz.func278 (by kernel_rfl) (by kernel_rfl) (by kernel_rfl) .releaseMerge (by kernel_rfl) a w
theorem store_deferred (a : Addr) (x : Value) (u : FrameMode) (w : World) (hc : w.cell? a = some x) (hz : w.frozen? a = false) :
    CallsD Tryz.prog 219 #[.pointer (some a), .bool true] u w fun e u' w' => u' = u ∧ (e = .returned (.tuple #[]) ∧ w' = w.drew.setCell a (.int .u32 1)) := by
  have hc' : w.drew.cell? a = some x := by go_simp
  have hz' : w.drew.frozen? a = false := by go_simp
  have hst := run_call_store (P := Tryz.prog) Tryz.func254 (by kernel_rfl) (by kernel_rfl) (by kernel_rfl) (by kernel_rfl) (k := .u32) (y := 1) hc' hz'
  go_enter_d Tryz.func219, Tryz.ntmps219
  go_wp2
  go_region_calls
  all_goals (go_end0; exact ⟨rfl, rfl⟩)
set_option maxRecDepth 100000 in
set_option maxHeartbeats 1600000 in
theorem unlock_deferred (a : Addr) (u : FrameMode) (w : World) (hc : w.cell? a = some (.int .i32 1)) (hz : w.frozen? a = false) :
    CallsD Tryz.prog 218 #[.pointer (some a)] u w fun e u' w' => u' = u ∧ (e = .returned (.tuple #[]) ∧ w' = w.setCell a (.int .i32 0)) := by
  have hd := disable
  have he := enable
  have hr := releaseMerge
  have hadd := run_call_add (P := Tryz.prog) Tryz.func279 (by kernel_rfl) (by kernel_rfl) (by kernel_rfl) .i32 (by kernel_rfl) (y := -1) (s := 0) hc hz (by simp [go_sem]; rfl)
  have hcv := run_convert_to_unsafe (P := Tryz.prog) (src := 338) (dst := 220) Tryz.underlying338 Tryz.underlying220 (by kernel_rfl) hc
  go_enter_d Tryz.func218, Tryz.ntmps218
  go_wp2
  go_end0
  go_wp2
  go_end0
  exact ⟨rfl, rfl⟩
set_option maxRecDepth 100000 in
set_option maxHeartbeats 1600000 in
theorem lock_free (a : Addr) (w : World) (hc : w.cell? a = some (.int .i32 0)) (hz : w.frozen? a = false) :
    Calls Tryz.prog 217 #[.pointer (some a)] w fun e w' => e = .returned (.tuple #[]) ∧ w' = w.setCell a (.int .i32 1) := by
  have hd := disable
  have he := enable
  have ha := acquire
  have hcas := run_call_cas_hit (P := Tryz.prog) Tryz.func274 (by kernel_rfl) (by kernel_rfl) (by kernel_rfl) .i32 (by kernel_rfl) (y := 1) hc hz
  have hc' : (w.setCell a (.int .i32 1)).cell? a = some (.int .i32 1) := World.cell?_setCell_same w a _ hc
  have hcv := run_convert_to_unsafe (P := Tryz.prog) (src := 338) (dst := 220) Tryz.underlying338 Tryz.underlying220 (by kernel_rfl) hc'
  go_enter Tryz.func217, Tryz.ntmps217
  go_wp2
  first | go_end0 | (simp only [Exit.inBlock, Exit.then]; refine bodyPost_ret (results_none rfl _ _ _) rfl ?_) | refine bodyPost_ret (results_none rfl _ _ _) rfl ?_
  go_wp2
  go_end0
  exact ⟨rfl, rfl⟩
end Go.Proofs.YtpmlhkoianekfaaGreatDoor


namespace Go.Proofs.YtpmlhkoianekfaaGreatDoor
open Go.Ev
theorem inV {Γ : Env} (hΓ : GOK Tryz.prog Γ) {f : Nat} {fn : Func} (hfn : Tryz.prog.funcs[f]? = some fn) (hrg : Γ.rng = [] := by rfl) : SumOK Tryz.prog f (evF Tryz.prog Γ [] fn) :=
  sumOK_inline hΓ (drawOK hΓ hmix) hfn (fun c _ b _ l hl => by cases hl) hrg
noncomputable def GU : Env := { pure := [], unroll := 300, conv := true }
theorem gU : GOK Tryz.prog GU := GOK.flags GOK.empty
def repC : List AV := (List.range 256).map fun i : Nat => AV.int .u8 (if i = 0 ∨ i = 13 then 32 else (i : Int))
set_option maxRecDepth 100000 in
theorem ev170 : evF Tryz.prog GU [] Tryz.f170 AV [.ref [.unk, .unk, .unk, .unk, .slv .str [.str [0], .str [32], .str [13], .str [32]]]] some = some (.ifr 279 repC) := by kernel_rfl
theorem s170 : SumOK Tryz.prog 170 (evF Tryz.prog GU [] Tryz.f170) := inV gU Tryz.func170
end Go.Proofs.YtpmlhkoianekfaaGreatDoor


namespace Go.Proofs.YtpmlhkoianekfaaGreatDoor
open Go.Ev
set_option maxRecDepth 100000 in
theorem run339 (a : Addr) (w : World) (h32 : w.cell? (a.add 32) = some (.int .u8 32)) (h98 : w.cell? (a.add 98) = some (.int .u8 98)) :
    Calls Tryz.prog 339 #[.pointer (some a), .string ⟨#[32, 98]⟩] w fun e w' => e = .returned (.string ⟨#[32, 98]⟩) ∧ w' = w := by
  have k32 : w.cell? (a.add (({ data := #[32, 98] } : ByteArray)[0]'(by decide)).toNat) = some (.int .u8 ((({ data := #[32, 98] } : ByteArray)[0]'(by decide)).toNat : Nat)) := h32
  have k98 : w.cell? (a.add (({ data := #[32, 98] } : ByteArray)[1]'(by decide)).toNat) = some (.int .u8 ((({ data := #[32, 98] } : ByteArray)[1]'(by decide)).toNat : Nat)) := h98
  have hnil : ∀ w : World, Sem.run Tryz.prog (binOp BinOp.eql 22 (Value.slice none 0 0) (Value.slice none 0 0)) w = .ok (.bool true) w := fun w => by
    have h := run_equal_slice_nil (P := Tryz.prog) w 22 5 none 0 0 (by kernel_rfl)
    simp only [binOp, Sem.run_bind, h, Result.andThen_ok]
    rfl
  go_enter Tryz.func339, Tryz.ntmps339
  go_wp2
  refine wp_loop_rounds 3 ?_
  rw [rounds_succ]; go_wp2
  rw [rounds_succ]; go_wp2
  rw [rounds_succ]; go_wp2
  unfold bodyPost
  exact ⟨rfl, _, results_tmp (t := 4) (by kernel_rfl) _ _ _, rfl, rfl⟩
end Go.Proofs.YtpmlhkoianekfaaGreatDoor


namespace Go.Proofs.YtpmlhkoianekfaaGreatDoor
open Go.Ev Go.RowKit
def Bl (w : World) (g : Nat) (t : TypeId) (xs : List Value) : Prop := w.heap[g]? = some (.cells xs.toArray t (0, 0))
theorem Bl.cell {w : World} {g t : Nat} {xs : List Value} (h : Bl w g t xs) {j : Nat} {v : Value} (hv : xs[j]? = some v) : w.cell? ⟨g, j, none⟩ = some v := by
  have h : w.heap[g]? = some (.cells xs.toArray t (0, 0)) := h
  simp [World.cell?, h, hv]
theorem Bl.frozen {w : World} {g t : Nat} {xs : List Value} (h : Bl w g t xs) (j : Nat) : w.frozen? ⟨g, j, none⟩ = false := by
  have h : w.heap[g]? = some (.cells xs.toArray t (0, 0)) := h
  simp [World.frozen?, h]
theorem Bl.set {w : World} {g t : Nat} {xs : List Value} (h : Bl w g t xs) (j : Nat) (v : Value) : Bl (w.setCell ⟨g, j, none⟩ v) g t (xs.set j v) := by
  have h : w.heap[g]? = some (.cells xs.toArray t (0, 0)) := h
  have hh := setRow_heap w g xs.toArray (xs.toArray.setIfInBounds j v) t (0, 0) h
  rw [← setCell_eq_setRow w g j xs.toArray t (0, 0) v h] at hh
  unfold Bl
  rw [hh]
  simp
theorem Bl.drew {w : World} {g t : Nat} {xs : List Value} (h : Bl w g t xs) : Bl w.drew g t xs := h
abbrev Old (n g : Nat) (w w' : World) : Prop := Kept (fun b => b < n ∧ ¬ b = g) w w'
theorem Old.set (n g j : Nat) (v : Value) (w : World) : Old n g w (w.setCell ⟨g, j, none⟩ v) := by
  refine ⟨rfl, rfl, rfl, by simp [World.setCell], fun k hk => ?_⟩
  have hk2 := hk.2
  simp only [World.setCell, Array.getElem?_modify]
  rw [if_neg (fun e => hk2 e.symm)]
theorem Old.drew (n g : Nat) (w : World) : Old n g w w.drew := ⟨rfl, rfl, rfl, Nat.le_refl _, fun _ _ => rfl⟩
def Rep (w : World) (g : Nat) (u : Value) : Prop := ∃ a : Addr, u = .iface 279 (.pointer (some a)) ∧ ¬ a.block = g ∧ w.cell? (a.add 32) = some (.int .u8 32) ∧ w.cell? (a.add 98) = some (.int .u8 98)
theorem Rep.set {w : World} {g : Nat} {u : Value} (h : Rep w g u) (j : Nat) (v : Value) : Rep (w.setCell ⟨g, j, none⟩ v) g u := by
  obtain ⟨a, hu, hb, h1, h2⟩ := h
  refine ⟨a, hu, hb, ?_, ?_⟩
  · rw [World.cell?_setCell_other _ _ _ _ (fun e => hb (by have := congrArg Addr.block e; rw [add_block] at this; exact this.symm))]; exact h1
  · rw [World.cell?_setCell_other _ _ _ _ (fun e => hb (by have := congrArg Addr.block e; rw [add_block] at this; exact this.symm))]; exact h2
theorem Rep.drew {w : World} {g : Nat} {u : Value} (h : Rep w g u) : Rep w.drew g u := h
theorem repC_len : repC.length = 256 := by kernel_rfl
theorem repC_32 : repC[32]? = some (.int .u8 32) := by kernel_rfl
theorem repC_98 : repC[98]? = some (.int .u8 98) := by kernel_rfl
theorem Rep.of {w : World} {S : Nat → Prop} {β : Bet} {u : Value} {g t : Nat} {xs : List Value} (h : VRel w S β (.ifr 279 repC) u) (hg : Bl w g t xs) (hx : xs.length ≤ 98) : Rep w g u := by
  cases h with
  | ifr _ _ _ v h =>
    cases h with
    | ref _ _ a ys hS hl h1 hx' hc =>
      have hget : ∀ j, j < 256 → ∃ y, ys[j]? = some y := fun j hj => ⟨ys[j]'(by rw [hl, repC_len]; exact hj), List.getElem?_eq_getElem _⟩
      obtain ⟨y32, e32⟩ := hget 32 (by omega)
      obtain ⟨y98, e98⟩ := hget 98 (by omega)
      have r32 := hc 32 _ _ repC_32 e32
      have r98 := hc 98 _ _ repC_98 e98
      cases r32
      cases r98
      refine ⟨a, rfl, fun e => ?_, hx' _ _ e32, hx' _ _ e98⟩
      have h98 := hx' _ _ e98
      have hg : w.heap[g]? = some (.cells xs.toArray t (0, 0)) := hg
      unfold World.cell? at h98
      rw [add_block, e, hg] at h98
      have hb : ∀ (b : Addr) (v : Value), (if b.spot.isSome = true then none else xs.toArray[b.off]?) = some v → b.spot = none ∧ b.off < xs.length := fun b v h => by
        split at h
        · cases h
        · rename_i hn
          have := (Array.getElem?_eq_some_iff.1 h).1
          exact ⟨by simpa using hn, by simpa using this⟩
      obtain ⟨k1, k2⟩ := hb _ _ h98
      unfold Addr.add at k1 k2
      split at k1 <;> simp_all <;> omega
theorem run_load0 (a : Addr) (x : Int) (w : World) (h0 : w.cell? a = some (.int .u32 x)) : (callFunc 216 #[.pointer (some a)]).run Tryz.prog w = .ok (.value (.int .u32 x)) w :=
  run_call_load (P := Tryz.prog) Tryz.func216 (by kernel_rfl) (by kernel_rfl) (by kernel_rfl) .u32 (by kernel_rfl) h0
end Go.Proofs.YtpmlhkoianekfaaGreatDoor


namespace Go.Proofs.YtpmlhkoianekfaaGreatDoor
open Go.Ev Go.RowKit
def W4 : AV := .slv .str [.str [0], .str [32], .str [13], .str [32]]
theorem run170 {w : World} {S : Nat → Prop} {g t : Nat} {xs : List Value} (hS : ∀ b, S b → b < w.heap.size) (hG : Glb (fun b => b < w.heap.size) w) (hg : Bl w g t xs) (h1 : ∀ u ∈ xs, u.oneCell' = true) (hv : VRels w S nob [.unk, .unk, .unk, .unk, W4] xs) :
    Calls Tryz.prog 170 #[.pointer (some ⟨g, 0, none⟩)] w fun e w' => ∃ u, e = .returned u ∧ Below w.heap.size w w' ∧ Rep w' g u := by
  have hgl : g < w.heap.size := (Array.getElem?_eq_some_iff.1 hg).1
  have hlen : xs.length = 5 := hv.1
  have hS' : ∀ b, (S b ∨ b = g) → b < w.heap.size := fun b h => h.elim (hS b) (fun e => by rw [e]; exact hgl)
  have hr : VRel w (fun b => S b ∨ b = g) nob (.ref [.unk, .unk, .unk, .unk, W4]) (.pointer (some ⟨g, 0, none⟩)) := by
    refine .ref _ _ ⟨g, 0, none⟩ xs (.inr rfl) hv.1 h1 (fun j u hu => ?_) (fun j c u hc hu => (hv.2 j c u hc hu).mono (fun _ h => .inl h) (fun _ _ => rfl) (fun _ _ h => h))
    have he : (⟨g, 0, none⟩ : Addr).add j = ⟨g, j, none⟩ := by unfold Addr.add; split <;> simp_all
    rw [he]
    exact hg.cell hu
  have h := s170 AV w (fun b => S b ∨ b = g) [.ref [.unk, .unk, .unk, .unk, W4]] [.pointer (some ⟨g, 0, none⟩)] some (.ifr 279 repC) ⟨hS', hG⟩ (VRels.cons hr VRels.nil) ev170
  refine (h.calls (by kernel_rfl)).mono fun e w' hq => ?_
  obtain ⟨u, v, S', he, hk, hb, hs1, hs2, hu⟩ := hq
  cases hk
  refine ⟨u, he, hb, Rep.of hu (g := g) (t := t) (xs := xs) ?_ (by omega)⟩
  exact (hb.block g hgl).trans hg
def Ini (w : World) (S : Nat → Prop) (g t : Nat) (x1 x2 x3 x4 : Value) : Prop :=
  Bl w g t [.int .u32 0, x1, x2, x3, x4] ∧ (∀ u ∈ [x1, x2, x3, x4], u.oneCell' = true) ∧ VRel w S nob W4 x4 ∧ ¬ S g
theorem Ini.rels {w : World} {S : Nat → Prop} {g t : Nat} {x1 x2 x3 x4 : Value} (h : Ini w S g t x1 x2 x3 x4) : VRels w S nob [.unk, .unk, .unk, .unk, W4] [.int .u32 0, x1, x2, x3, x4] :=
  VRels.cons (.unk _ _) (VRels.cons (.unk _ _) (VRels.cons (.unk _ _) (VRels.cons (.unk _ _) (VRels.cons h.2.2.1 VRels.nil))))
theorem Ini.one {w : World} {S : Nat → Prop} {g t : Nat} {x1 x2 x3 x4 : Value} (h : Ini w S g t x1 x2 x3 x4) : ∀ u ∈ [.int .u32 0, x1, x2, x3, x4], u.oneCell' = true := fun u hu => by
  rcases List.mem_cons.1 hu with rfl | hu
  · rfl
  · exact h.2.1 u hu
theorem Bl.of_below {w w' : World} {g t : Nat} {xs : List Value} (hb : Below w.heap.size w w') (hgl : g < w.heap.size) (h : Bl w g t xs) : Bl w' g t xs := (hb.block g hgl).trans h
set_option maxRecDepth 100000 in
theorem once119 {w : World} {S : Nat → Prop} {g t : Nat} {x1 x2 x3 x4 : Value} (hS : ∀ b, S b → b < w.heap.size) (hG : Glb (fun b => b < w.heap.size) w) (hI : Ini w S g t x1 x2 x3 x4) :
    Calls Tryz.prog 119 #[.pointer (some ⟨g, 0, none⟩)] w fun e w' => e = .returned (.tuple #[]) ∧ Old w.heap.size g w w' ∧ ∃ u, Bl w' g t [.int .u32 0, x1, x2, u, .slice none 0 0] ∧ Rep w' g u := by
  have hg := hI.1
  have hgl : g < w.heap.size := (Array.getElem?_eq_some_iff.1 hg).1
  have c0 := run170 hS hG hg hI.one hI.rels
  go_enter Tryz.func119, Tryz.ntmps119
  go_wp2_with (go_at_call 170; refine c0.mono ?_; rintro e w' ⟨u, rfl, hb, ⟨a, rfl, ha⟩⟩; have hg' := Bl.of_below hb hgl hg; have k3 := hg'.cell (j := 3) rfl; have z3 := hg'.frozen 3; have hg2 := hg'.set 3 (.iface 279 (.pointer (some a))); have k4 := hg2.cell (j := 4) rfl; have z4 := hg2.frozen 4)
  go_end0
  refine ⟨rfl, ?_, _, hg2.set 4 _, Rep.set (Rep.set ⟨a, rfl, ha⟩ 3 _) 4 _⟩
  exact (Kept.of_below hb (fun b h => h.1)).trans ((Old.set _ g 3 _ w').trans (Old.set _ g 4 _ _))
theorem Ini.lock {w : World} {S : Nat → Prop} {g t : Nat} {x1 x2 x3 x4 v : Value} (h : Ini w S g t x1 x2 x3 x4) (hv : v.oneCell' = true) : Ini (w.setCell ⟨g, 1, none⟩ v) S g t v x2 x3 x4 := by
  refine ⟨h.1.set 1 v, fun u hu => ?_, ?_, h.2.2.2⟩
  · rcases List.mem_cons.1 hu with rfl | hu
    · exact hv
    · exact h.2.1 u (List.mem_cons_of_mem _ hu)
  · refine h.2.2.1.mono (fun _ h => h) (fun b hb => ?_) (fun _ _ h => h)
    have := (Old.set (b + 1) g 1 v w).block b ⟨by omega, fun e => h.2.2.2 (e ▸ hb)⟩
    exact this
set_option maxRecDepth 100000 in
theorem slow169 {w : World} {S B : Nat → Prop} {g t : Nat} {x2 x3 x4 : Value} (hS : ∀ b, S b → b < w.heap.size) (hB : ∀ b, B b → b < w.heap.size ∧ ¬ b = g) (hG : Glb B w) (hI : Ini w S g t (.int .i32 0) x2 x3 x4) :
    Calls Tryz.prog 169 #[.pointer (some ⟨g, 0, none⟩), .func (.func 119) #[.pointer (some ⟨g, 0, none⟩)] #[]] w fun e w' => e = .returned (.tuple #[]) ∧ Old w.heap.size g w w' ∧ ∃ u, Bl w' g t [.int .u32 1, .int .i32 0, x2, u, .slice none 0 0] ∧ Rep w' g u := by
  have hI1 := hI.lock (v := .int .i32 1) rfl
  have c1 := hI.1.cell (j := 1) rfl
  have z1 := hI.1.frozen 1
  have k1 : Old w.heap.size g w (w.setCell ⟨g, 1, none⟩ (.int .i32 1)) := Old.set _ g 1 _ w
  have hsz : (w.setCell ⟨g, 1, none⟩ (.int .i32 1)).heap.size = w.heap.size := by simp [World.setCell]
  have hG1 : Glb (fun b => b < (w.setCell ⟨g, 1, none⟩ (.int .i32 1)).heap.size) (w.setCell ⟨g, 1, none⟩ (.int .i32 1)) :=
    Glb.mono (KeptG.here ⟨⟨k1.os, k1.tape, k1.output, k1.size, fun b hb => k1.block b (hB b hb)⟩, hG⟩) (fun b hb => by rw [hsz]; exact (hB b hb).1)
  have c2 := once119 (by rw [hsz]; exact hS) hG1 hI1
  have hl := run_load0 ⟨g, 0, none⟩ 0 (w.setCell ⟨g, 1, none⟩ (.int .i32 1)) (hI1.1.cell (j := 0) rfl)
  have hnot : ∀ (x : Bool) (w : World), (Op.unary .not (.bool x)).run Tryz.prog w = .ok (.bool (!x)) w := fun _ _ => rfl
  generalize hw1 : w.setCell ⟨g, 1, none⟩ (.int .i32 1) = w1 at *
  go_enter_defers Tryz.func169, Tryz.ntmps169
  go_wp2_with (first | (go_at_call 217; refine (lock_free ⟨g, 1, none⟩ _ c1 z1).mono ?_; rintro e w' ⟨rfl, rfl⟩; rw [hw1]) | (go_at_call 119; refine c2.mono ?_; rintro e w' ⟨rfl, ho, u, hb, hr⟩) | (go_at_call 168; go_in))
  go_wp2
  have d0 := hb.cell (j := 0) rfl
  have y0 := hb.frozen 0
  refine leaves_cons (f := 219) (args := #[.pointer (some ⟨g, 0, none⟩), .bool true]) (by simp) (by simp [go_sem]) ?_
  refine (store_deferred ⟨g, 0, none⟩ _ .returning _ d0 y0).mono ?_
  rintro e u' w'' ⟨rfl, rfl, rfl⟩
  have hb1 := (hb.drew).set 0 (.int .u32 1)
  have d1 := hb1.cell (j := 1) rfl
  have y1 := hb1.frozen 1
  refine leaves_cons (f := 218) (args := #[.pointer (some ⟨g, 1, none⟩)]) (by simp [settle]) (by simp [go_sem]) ?_
  refine (unlock_deferred ⟨g, 1, none⟩ _ _ d1 y1).mono ?_
  rintro e u' w'' ⟨rfl, rfl, rfl⟩
  simp only [Leaves, settle]
  refine ⟨.tuple #[], results_none rfl _ _ _, rfl, ?_, u, hb1.set 1 _, Rep.set (Rep.set hr.drew 0 _) 1 _⟩
  rw [hsz] at ho
  exact k1.trans (ho.trans ((Old.drew _ g _).trans ((Old.set _ g 0 _ _).trans (Old.set _ g 1 _ _))))
theorem do118 {w : World} {S B : Nat → Prop} {g t : Nat} {x2 x3 x4 : Value} (hS : ∀ b, S b → b < w.heap.size) (hB : ∀ b, B b → b < w.heap.size ∧ ¬ b = g) (hG : Glb B w) (hI : Ini w S g t (.int .i32 0) x2 x3 x4) :
    Calls Tryz.prog 118 #[.pointer (some ⟨g, 0, none⟩), .func (.func 119) #[.pointer (some ⟨g, 0, none⟩)] #[]] w fun e w' => e = .returned (.tuple #[]) ∧ Old w.heap.size g w w' ∧ ∃ u, Bl w' g t [.int .u32 1, .int .i32 0, x2, u, .slice none 0 0] ∧ Rep w' g u := by
  have c2 := slow169 hS hB hG hI
  have hl := run_load0 ⟨g, 0, none⟩ 0 w (hI.1.cell (j := 0) rfl)
  have hnot : ∀ (x : Bool) (w : World), (Op.unary .not (.bool x)).run Tryz.prog w = .ok (.bool (!x)) w := fun _ _ => rfl
  go_enter Tryz.func118, Tryz.ntmps118
  go_wp2_with (first | (go_at_call 169; refine c2.mono ?_; rintro e w' ⟨rfl, ho, u, hb, hr⟩) | (go_at_call 168; go_in))
  go_end0
  exact ⟨rfl, ho, u, hb, hr⟩
set_option maxRecDepth 100000 in
theorem replace75 {w : World} {S B : Nat → Prop} {g t : Nat} {x2 x3 x4 : Value} (hS : ∀ b, S b → b < w.heap.size) (hB : ∀ b, B b → b < w.heap.size ∧ ¬ b = g) (hG : Glb B w) (hI : Ini w S g t (.int .i32 0) x2 x3 x4) :
    Calls Tryz.prog 75 #[.pointer (some ⟨g, 0, none⟩), .string ⟨#[32, 98]⟩] w fun e w' => e = .returned (.string ⟨#[32, 98]⟩) ∧ Old w.heap.size g w w' := by
  have c2 := do118 hS hB hG hI
  have hmf : ∀ (fn : Fn) (first cap : Array Value) (w : World), (Instr.makeFunc fn first cap).run Tryz.prog w = .ok (.func fn first cap) w := fun _ _ _ _ => rfl
  have hm : ∀ (w : World) (v : Value), Sem.run Tryz.prog (method 498 279 v "Replace") w = .ok (339, v) w := fun _ _ => by kernel_rfl
  go_enter Tryz.func75, Tryz.ntmps75
  go_wp2_with (first | (go_at_call 118; refine c2.mono ?_; rintro e w' ⟨rfl, ho, u, hb, ⟨a, rfl, ha, k32, k98⟩⟩; have d3 := hb.cell (j := 3) rfl) | (go_at_call 339; refine (run339 a _ k32 k98).mono ?_; rintro e w'' ⟨rfl, rfl⟩))
  go_ret
  exact ⟨rfl, ho⟩
end Go.Proofs.YtpmlhkoianekfaaGreatDoor


namespace Go.Proofs.YtpmlhkoianekfaaGreatDoor
open Go.Ev Go.RowKit
def isW4 : List AV → Bool
  | [.str a, .str b, .str c, .str d] => a == [0] && (b == [32] && (c == [13] && d == [32]))
  | _ => false
theorem isW4_eq : ∀ {es : List AV}, isW4 es = true → AV.slv .str es = W4
  | [.str a, .str b, .str c, .str d], h => by
    simp only [isW4, Bool.and_eq_true, beq_iff_eq] at h
    obtain ⟨rfl, rfl, rfl, rfl⟩ := h
    rfl
def L4 : List AV := [.str [0], .str [32], .str [13], .str [32]]
theorem isW4_L : ∀ {es : List AV}, isW4 es = true → es = L4
  | [.str a, .str b, .str c, .str d], h => by
    simp only [isW4, Bool.and_eq_true, beq_iff_eq] at h
    obtain ⟨rfl, rfl, rfl, rfl⟩ := h
    rfl
def F73 : List AV → List Row → Tr XOut
  | [.own q], [.arr im .str 9 es _sp] => .gd (q == PID && isW4 es) (.leaf (.ptr RID 0, [some (.arr im .str 9 L4 none)], [.box false [.int .u32 0, .int .i32 0, .int .u32 0, .nl, .own (RID + 1)], .arr false .str 9 L4 none]))
  | _, _ => .no
theorem ok73 : XOK Tryz.prog 73 (ofX F73) ∧ XNat (ofX F73) := by
  refine ⟨xsum0 (H := []) g0 Tryz.func73 (by kernel_rfl) fun ρ avs rows k r h => ?_, xnat_ofX _⟩
  change (F73 avs rows).run _ = some r at h
  unfold F73 at h
  split at h
  · rename_i q im es sp
    obtain ⟨hc, hk⟩ := gd_some h
    simp only [Bool.and_eq_true, beq_iff_eq] at hc
    obtain ⟨rfl, hc⟩ := hc
    rw [isW4_L hc]
    refine ⟨by simp, fun rows' hsp => ?_⟩
    obtain ⟨sp', rfl⟩ : ∃ sp', rows' = [.arr im .str 9 L4 (some sp')] := by
      cases rows' with
      | nil => exact hsp.elim
      | cons a b =>
        obtain ⟨⟨sp', rfl, _⟩, hb⟩ := hsp
        cases b with
        | nil => exact ⟨sp', rfl⟩
        | cons c d => exact hb.elim
    refine Eq.trans (b := k (.ptr RID 0) [some (.arr im .str 9 L4 none)] [.box false [.int .u32 0, .int .i32 0, .int .u32 0, .nl, .own (RID + 1)], .arr false .str 9 L4 none]) (by kernel_rfl) ?_
    exact hk
  · cases h
def F75 : List AV → List Row → Tr XOut
  | [.ptr p o, .str s], [.box false [.int .u32 a, .int .i32 b, _x2, _x3, .own q], .arr false .str _e es _sp] =>
    .gd (p == PID && (o == 0 && (s == [32, 98] && (a == 0 && (b == 0 && (q == PID + 1 && isW4 es)))))) (.leaf (.str [32, 98], [none, none], []))
  | _, _ => .no
theorem ok75 : XOK Tryz.prog 75 (ofX F75) ∧ XNat (ofX F75) := by
  refine ⟨fun ρ w S B β og avs rows args k r hH hSB hdom hv h => ?_, xnat_ofX F75⟩
  have h' : (F75 avs rows).run (fun q => k q.1 q.2.1 q.2.2) = some r := h
  unfold F75 at h'
  split at h'
  · rename_i p o s a b x2 x3 q e es sp
    obtain ⟨hc, hk⟩ := gd_some h'
    simp only [Bool.and_eq_true, beq_iff_eq] at hc
    obtain ⟨rfl, rfl, rfl, rfl, rfl, rfl, hw4⟩ := hc
    obtain ⟨v, vs, rfl, h1, hv⟩ := hv.inv
    obtain ⟨u, us, rfl, h2, hv⟩ := hv.inv
    obtain rfl := hv.inv_nil
    have hr0 := hH.row PID (.box false [.int .u32 0, .int .i32 0, x2, x3, .own (PID + 1)]) (by simp [zipIds, lookup])
    have hr1 := hH.row (PID + 1) (.arr false .str e es sp) (by simp [zipIds, lookup])
    obtain ⟨g, vs, pv, hog, hbet, hhold, hvs, hnS, _, hnB⟩ := hr0
    cases h2
    cases h1 with
    | ptr _ _ _ g' wd hb =>
      rw [hbet] at hb
      simp only [Option.some.injEq, Prod.mk.injEq] at hb
      obtain ⟨rfl, ht, hone⟩ := hhold.ptr hb.1
      obtain ⟨t, hblk⟩ := ht
      obtain ⟨y0, ys, rfl, e0, hvs⟩ := hvs.inv
      obtain ⟨y1, ys, rfl, e1, hvs⟩ := hvs.inv
      obtain ⟨y2, ys, rfl, e2, hvs⟩ := hvs.inv
      obtain ⟨y3, ys, rfl, e3, hvs⟩ := hvs.inv
      obtain ⟨y4, ys, rfl, e4, hvs⟩ := hvs.inv
      obtain rfl := hvs.inv_nil
      cases e0
      cases e1
      obtain ⟨v0, hb0, hs0, _⟩ := arr_slv (S' := fun b => S b ∨ og (PID + 1) = some b) hr1 (fun _ h => .inl h) (fun g hg => .inr hg) nob
      cases e4 with
      | own _ _ _ wd hb4 =>
        rw [hb0] at hb4
        simp only [Option.some.injEq, Prod.mk.injEq] at hb4
        obtain ⟨rfl, _⟩ := hb4
        have hI : Ini w (fun b => S b ∨ og (PID + 1) = some b) g t (.int .i32 0) y2 y3 v0 := by
          refine ⟨hblk, fun u hu => hone u (List.mem_cons_of_mem _ hu), ?_, fun h => ?_⟩
          · rw [← isW4_eq hw4]; exact hs0
          · rcases h with h | h
            · exact hnS rfl h
            · have := hH.inj _ _ _ hog h; simp [PID] at this
        have hrun := replace75 (B := B) (g := g) (fun b h => h.elim (hH.Slt b) (fun h => hH.lt _ _ h)) (fun b hb => ⟨hH.Ble b hb, fun e => hnB (e ▸ hb)⟩) hSB.2 hI
        refine .inl ⟨by kernel_rfl, hrun.mono fun e1 w' hq => ?_⟩
        obtain ⟨he, hw⟩ := hq
        refine ⟨_, _, _, _, S, β, og, he, hk, ?_⟩
        refine ⟨⟨hw.os, hw.tape, hw.output, hw.size, fun b hb => hw.block b ⟨hH.Ble b hb, fun e => hnB (e ▸ hb)⟩⟩, fun _ h => h, fun b h => .inl h, .str _ _, fun j r hj => ?_, fun j r hj => ?_, hH.inj, fun id g hg => Nat.lt_of_lt_of_le (hH.lt _ _ hg) hw.size, hH.one, fun b hb => Nat.lt_of_lt_of_le (hH.Slt b hb) hw.size, fun _ _ _ h => h⟩
        · match j with
          | 0 => simp at hj
          | 1 => simp at hj
          | j + 2 => simp at hj
        · simp at hj
  · cases h'
end Go.Proofs.YtpmlhkoianekfaaGreatDoor


namespace Go.Proofs.YtpmlhkoianekfaaGreatDoor
open Go.Ev Go.RowKit
noncomputable def G165 : Env := { pure := [(165, evF Tryz.prog G0 [] Tryz.f165)], unroll := 5 }
theorem g165 : GOK Tryz.prog G165 := GOK.flags (GOK.also g0 (inU g0 Tryz.func165))
noncomputable def GTr : Env := { pure := [(113, evF Tryz.prog GU [] Tryz.f113), (114, evF Tryz.prog G165 [] Tryz.f114), (115, evF Tryz.prog G165 [] Tryz.f115)] }
theorem gTr : GOK Tryz.prog GTr := GOK.also (GOK.also (GOK.also g0 (inU g165 Tryz.func115)) (inU g165 Tryz.func114)) (inU gU Tryz.func113)
noncomputable def G164 : Env := { pure := [(99, evF Tryz.prog G99u [] Tryz.f99)], unroll := 1 }
theorem g164 : GOK Tryz.prog G164 := GOK.flags (GOK.also g0 (inU g99u Tryz.func99))
noncomputable def G164b : Env := { pure := [(206, evF Tryz.prog G164 [] Tryz.f206)] }
theorem g164b : GOK Tryz.prog G164b := GOK.also g0 (inU g164 Tryz.func206)
noncomputable def G110 : Env := { pure := [(164, evF Tryz.prog G164b [] Tryz.f164)] }
theorem g110 : GOK Tryz.prog G110 := GOK.also g0 (inU g164b Tryz.func164)
def F101 : List AV → Tr AV
  | [.str [65], .str [32, 9]] => .leaf (.str [65])
  | _ => .no
def F74 : List AV → Tr AV
  | [.str [32, 98], .str [32, 9]] => .leaf (.str [98])
  | _ => .no
def F110 : List AV → Tr AV
  | [.str [65, 58, 32, 98], .str [58]] => .leaf (.tup [.str [65], .str [32, 98], .bool true])
  | _ => .no
theorem ok101 : SumOK Tryz.prog 101 (ofT F101) ∧ SNat (ofT F101) := by
  refine ⟨fun ρ w S avs args k r hS hv h => (inU gTr Tryz.func101).1 ρ w S avs args k r hS hv ?_, snat_ofT F101⟩
  have h' : (F101 avs).run k = some r := h
  unfold F101 at h'
  split at h'
  · refine Eq.trans (b := k (AV.str [65])) (by kernel_rfl) ?_
    exact h'
  · cases h'
theorem ok74 : SumOK Tryz.prog 74 (ofT F74) ∧ SNat (ofT F74) := by
  refine ⟨fun ρ w S avs args k r hS hv h => (inU gTr Tryz.func74).1 ρ w S avs args k r hS hv ?_, snat_ofT F74⟩
  have h' : (F74 avs).run k = some r := h
  unfold F74 at h'
  split at h'
  · refine Eq.trans (b := k (AV.str [98])) (by kernel_rfl) ?_
    exact h'
  · cases h'
theorem ok110 : SumOK Tryz.prog 110 (ofT F110) ∧ SNat (ofT F110) := by
  refine ⟨fun ρ w S avs args k r hS hv h => (inU g110 Tryz.func110).1 ρ w S avs args k r hS hv ?_, snat_ofT F110⟩
  have h' : (F110 avs).run k = some r := h
  unfold F110 at h'
  split at h'
  · refine Eq.trans (b := k (AV.tup [AV.str [65], AV.str [32, 98], AV.bool true])) (by kernel_rfl) ?_
    exact h'
  · cases h'
end Go.Proofs.YtpmlhkoianekfaaGreatDoor


namespace Go.Proofs.YtpmlhkoianekfaaGreatDoor
open Go.Ev Go.RowKit
noncomputable def G72 : Env := { pure := [(110, ofT F110), (101, ofT F101), (44, ofT F44)] }
theorem g72 : GOK Tryz.prog G72 := GOK.also (GOK.also (GOK.also g0 ok44) ok101) ok110
noncomputable def G70 : Env := { pure := [(108, ofT F108), (109, ofT F109)], conv := true }
theorem g70 : GOK Tryz.prog G70 := GOK.flags (GOK.also (GOK.also g0 ok109) ok108)
noncomputable def G38 : Env := { pure := [], unroll := 5 }
theorem g38 : GOK Tryz.prog G38 := GOK.flags GOK.empty
def isL : List AV → List Int → Bool
  | [], [] => true
  | .int .u8 a :: es, b :: bs => (a == b) && isL es bs
  | _, _ => false
def lsA (l : List Int) : List AV := l.map (AV.int .u8)
theorem isL_eq : ∀ {es : List AV} {bs : List Int}, isL es bs = true → es = lsA bs
  | [], [], _ => rfl
  | .int .u8 a :: es, b :: bs, h => by
    simp only [isL, Bool.and_eq_true, beq_iff_eq] at h
    obtain ⟨rfl, h⟩ := h
    rw [isL_eq h]
    rfl
def B11 : List Int := [65, 58, 32, 98, 13, 10, 13, 10, 99, 13, 10]
def B5 : List Int := [13, 10, 99, 13, 10]
def B3 : List Int := [99, 13, 10]
theorem nmA : nmF [65] = true := by kernel_rfl
def F72 : List AV → Tr AV
  | [.str [65, 58, 32, 98]] => .leaf (.tup [.agg [.str [65], .str [32, 98]], .bool true])
  | _ => .no
theorem ok72 : SumOK Tryz.prog 72 (ofT F72) ∧ SNat (ofT F72) := by
  refine ⟨fun ρ w S avs args k r hS hv h => (inU g72 Tryz.func72).1 ρ w S avs args k r hS hv ?_, snat_ofT F72⟩
  have h' : (F72 avs).run k = some r := h
  unfold F72 at h'
  split at h'
  · refine Eq.trans (b := k (AV.tup [AV.agg [AV.str [65], AV.str [32, 98]], AV.bool (nmF [65])])) (by kernel_rfl) ?_
    rw [nmA]
    exact h'
  · cases h'
def F70 : List AV → Tr AV
  | [.slv (.int .u8) es] => .br (isL es B11) (.leaf (.tup [.str [65, 58, 32, 98], .int .i64 6])) (.gd (isL es B5) (.leaf (.tup [.str [], .int .i64 2])))
  | _ => .no
theorem ok70 : SumOK Tryz.prog 70 (ofT F70) ∧ SNat (ofT F70) := by
  refine ⟨fun ρ w S avs args k r hS hv h => (inU g70 Tryz.func70).1 ρ w S avs args k r hS hv ?_, snat_ofT F70⟩
  have h' : (F70 avs).run k = some r := h
  unfold F70 at h'
  split at h'
  · rename_i es
    cases hc : isL es B11
    · have h2 : (Tr.gd (isL es B5) (Tr.leaf (AV.tup [.str [], .int .i64 2]))).run k = some r := by
        simp only [Tr.run, hc, cond_false] at h' ⊢
        exact h'
      obtain ⟨hc2, hk⟩ := gd_some h2
      rw [isL_eq hc2]
      refine Eq.trans (b := k (AV.tup [AV.str [], AV.int .i64 2])) (by kernel_rfl) ?_
      exact hk
    · rw [isL_eq hc]
      refine Eq.trans (b := k (AV.tup [AV.str [65, 58, 32, 98], AV.int .i64 6])) (by kernel_rfl) ?_
      simp only [Tr.run, hc, cond_true] at h'
      exact h'
  · cases h'
def F38 : List AV → Tr AV
  | [.slv (.int .u8) es] => .gd (isL es B3) (.leaf (.slv (.int .u8) (lsA B3)))
  | _ => .no
theorem ok38 : SumOK Tryz.prog 38 (ofT F38) ∧ SNat (ofT F38) := by
  refine ⟨fun ρ w S avs args k r hS hv h => (inU g38 Tryz.func38).1 ρ w S avs args k r hS hv ?_, snat_ofT F38⟩
  have h' : (F38 avs).run k = some r := h
  unfold F38 at h'
  split at h'
  · rename_i es
    obtain ⟨hc, hk⟩ := gd_some h'
    rw [isL_eq hc]
    refine Eq.trans (b := k (AV.slv (.int .u8) (lsA B3))) (by kernel_rfl) ?_
    exact hk
  · cases h'
noncomputable def G37 : Env := { pure := [(70, ofT F70), (71, ofT F71), (72, ofT F72), (74, ofT F74), (13, ofT F13), (15, ofT F15)], opens := [(73, ofX F73), (75, ofX F75)], unroll := 5 }
theorem g37 : GOK Tryz.prog G37 := GOK.flags (GOK.alsoX (GOK.alsoX (GOK.also (GOK.also (GOK.also (GOK.also (GOK.also (GOK.also g0 ok15) ok13) ok74) ok72) ok71) ok70) ok75) ok73)
end Go.Proofs.YtpmlhkoianekfaaGreatDoor


namespace Go.Proofs.YtpmlhkoianekfaaGreatDoor
open Go.Ev
theorem rtS_len (bs : List AV) : (rtS bs).length ≤ 4 * bs.length := by
  unfold rtS runeStr runesAV
  have h := Go.foldl_size_le (((runesI (strAV bs)).map (AV.int .i32)).map AV.toInt) ByteArray.empty
  have h2 := runesI_len (strAV bs)
  rw [strAV_len] at h2
  rw [List.length_map, List.length_map] at h
  have h0 : ByteArray.empty.size = 0 := rfl
  show (List.foldl (fun r n => r ++ Utf8.encode n) ByteArray.empty _).size ≤ _
  omega
noncomputable def G33 : Env := { pure := [(58, ofT F58), (59, ofT F59), (54, ofT F54), (60, ofT F60), (61, ofT F61)] }
theorem g33 : GOK Tryz.prog G33 := GOK.also (GOK.also (GOK.also (GOK.also (GOK.also g0 ok61) ok60) ok54) ok59) ok58
def vwS (es bs : List AV) : List UInt8 := Lib.replaceAll (rtS (cnV es bs)) [13, 10] [10]
def F33 : List AV → Tr AV
  | [.agg [.slv (.agg [.str, .str]) es, .slv (.int .u8) bs, .slv (.agg [.slice (.agg [.str, .str]), .slice (.int .u8), .slice (.agg [.slice (.agg [.str, .str]), .slice (.int .u8), .slice (.agg [.slice (.agg [.str, .str]), .slice (.int .u8), .slice (.agg [.slice (.agg [.str, .str]), .slice (.int .u8), .slice (.agg [.slice .other, .slice .other, .slice .other])])])])]) []]] => .gd (small es.length && (es.all okF && (es.all noT && (small bs.length && (bs.all bE && decide ((cnV es bs).length ≤ 12000)))))) (.leaf (.str (vwS es bs)))
  | _ => .no
theorem ok33 : SumOK Tryz.prog 33 (ofT F33) ∧ SNat (ofT F33) := by
  refine fn0 g33 Tryz.func33 (by kernel_rfl) fun ρ avs k r h => ?_
  unfold F33 at h
  split at h
  · rename_i es bs
    obtain ⟨hc, hk⟩ := gd_some h
    simp only [Bool.and_eq_true] at hc
    obtain ⟨h1, h2, h3, h4, h5, h6⟩ := hc
    refine Eq.trans (b := bif small es.length && (es.all okF && es.all noT) then bif small es.length && (es.all okF && (small bs.length && bs.all bE)) then bif decide ((cnV es bs).length ≤ (12000 : Nat)) then bif decide ((cnV es bs).length ≤ (12000 : Nat)) then bif decide ((rtS (cnV es bs)).length ≤ (1000000 : Nat)) then k (AV.str (Lib.replaceAll (rtS (cnV es bs)) [(13 : UInt8), (10 : UInt8)] [(10 : UInt8)])) else none else none else none else none else none) (by kernel_rfl) ?_
    rw [← hk]
    have h6' := of_decide_eq_true h6
    have hl := rtS_len (cnV es bs)
    refine Eq.trans (cond_t (and_t h1 (and_t h2 h3))) (Eq.trans (cond_t (and_t h1 (and_t h2 (and_t h4 h5)))) (Eq.trans (cond_t h6) (Eq.trans (cond_t h6) ?_)))
    exact cond_t (decide_eq_true (by omega))
  · cases h
noncomputable def GY5 : Env := { pure := [(58, ofT F58), (24, ofT F24)] }
theorem gY5 : GOK Tryz.prog GY5 := GOK.also (GOK.also g0 ok24) ok58
noncomputable def Y5 : SummX := evY Tryz.prog GY5 [] 5 (loopCode 5)
theorem y5 : YOK Tryz.prog 5 Y5 ∧ XNat Y5 := inY_ok gY5 hmix rfl (KOK.nil (by kernel_rfl)) (KOK.nil (by kernel_rfl))
noncomputable def G32 : Env := { pure := [], opens := [(51, ofX F51), (84, inX Tryz.prog (E84 5 Y5) Tryz.f84)], rng := [(3, 5, 5000)] }
theorem g32 : GOK Tryz.prog G32 := GOK.flags (GOK.alsoX (GOK.alsoX g0 (k84 y5 (by kernel_rfl))) ok51)
theorem rng32 : (Tryz.f32.body.map rngsOf) = some [loopCode 5] := by kernel_rfl
def F32 : List AV → Tr AV
  | [.agg [.slv (.agg [.str, .str]) es, .slv (.int .u8) bs, .slv (.agg [.slice (.agg [.str, .str]), .slice (.int .u8), .slice (.agg [.slice (.agg [.str, .str]), .slice (.int .u8), .slice (.agg [.slice (.agg [.str, .str]), .slice (.int .u8), .slice (.agg [.slice (.agg [.str, .str]), .slice (.int .u8), .slice (.agg [.slice .other, .slice .other, .slice .other])])])])]) []], .str [116, 101, 120, 116], .str [112, 108, 97, 105, 110]] => .gd (small es.length && (es.all okF && es.all noT)) (.leaf (.tup [.agg [.slv (.agg [.str, .str]) es, .slv (.int .u8) bs, .slv (.agg [.slice (.agg [.str, .str]), .slice (.int .u8), .slice (.agg [.slice (.agg [.str, .str]), .slice (.int .u8), .slice (.agg [.slice (.agg [.str, .str]), .slice (.int .u8), .slice (.agg [.slice (.agg [.str, .str]), .slice (.int .u8), .slice (.agg [.slice .other, .slice .other, .slice .other])])])])]) []], .bool true]))
  | _ => .no
theorem ok32 : SumOK Tryz.prog 32 (ofT F32) ∧ SNat (ofT F32) := by
  refine ⟨sumOK_ofR g32 (drawOK g32 hmix) Tryz.func32 (fun ρ avs k r h => ⟨[], fun c hc => KOK.nil (by
      have h1 : Tryz.f32.body.map loopsOf = some [] := by kernel_rfl
      rw [hc] at h1
      simpa using h1), ?_⟩) (rng_one rng32 rfl rfl), snat_ofT _⟩
  change (F32 avs).run k = some r at h
  unfold F32 at h
  split at h
  · rename_i es bs
    obtain ⟨hc, hk⟩ := gd_some h
    refine Eq.trans (b := bif small es.length && (es.all okF && es.all noT) then k (AV.tup [AV.agg [AV.slv (Sh.agg [Sh.str, Sh.str]) es, AV.slv (Sh.int IntKind.u8) bs, AV.slv (Sh.agg [(Sh.agg [Sh.str, Sh.str]).slice, (Sh.int IntKind.u8).slice, (Sh.agg [(Sh.agg [Sh.str, Sh.str]).slice, (Sh.int IntKind.u8).slice, (Sh.agg [(Sh.agg [Sh.str, Sh.str]).slice, (Sh.int IntKind.u8).slice, (Sh.agg [(Sh.agg [Sh.str, Sh.str]).slice, (Sh.int IntKind.u8).slice, (Sh.agg [Sh.other.slice, Sh.other.slice, Sh.other.slice]).slice]).slice]).slice]).slice]) []], AV.bool true]) else none) (by kernel_rfl) ?_
    rw [← hk]
    exact cond_t hc
  · cases h
noncomputable def G10 : Env := { pure := [(31, ofT F31), (32, ofT F32), (33, ofT F33), (19, ofT F19), (15, ofT F15)] }
theorem g10 : GOK Tryz.prog G10 := GOK.also (GOK.also (GOK.also (GOK.also (GOK.also g0 ok15) ok19) ok33) ok32) ok31
def F10 : List AV → Tr AV
  | [.agg [.slv (.agg [.str, .str]) es, .slv (.int .u8) bs, .slv (.agg [.slice (.agg [.str, .str]), .slice (.int .u8), .slice (.agg [.slice (.agg [.str, .str]), .slice (.int .u8), .slice (.agg [.slice (.agg [.str, .str]), .slice (.int .u8), .slice (.agg [.slice (.agg [.str, .str]), .slice (.int .u8), .slice (.agg [.slice .other, .slice .other, .slice .other])])])])]) []]] => .gd (small es.length && (es.all okF && (es.all noT && (small bs.length && (bs.all bE && (decide ((cnV es bs).length ≤ 12000) && ckC es bs == 0)))))) (.leaf (.tup [.str (vwS es bs), .agg [.int .i64 0, .int .i64 0]]))
  | _ => .no
theorem ok10 : SumOK Tryz.prog 10 (ofT F10) ∧ SNat (ofT F10) := by
  refine fn0 g10 Tryz.func10 (by kernel_rfl) fun ρ avs k r h => ?_
  unfold F10 at h
  split at h
  · rename_i es bs
    obtain ⟨hc, hk⟩ := gd_some h
    simp only [Bool.and_eq_true] at hc
    obtain ⟨h1, h2, h3, h4, h5, h6, h7⟩ := hc
    have h7 : ckC es bs = 0 := eq_of_beq h7
    refine Eq.trans (b := bif small es.length && (es.all okF && (es.all noT && small bs.length)) then bif ckC es bs != (0 : Int) then k (AV.tup [AV.str [], AV.agg [AV.int IntKind.i64 (ckC es bs), AV.int IntKind.i64 0]]) else bif small es.length && (es.all okF && es.all noT) then bif small es.length && (es.all okF && (es.all noT && (small bs.length && (bs.all bE && decide ((cnV es bs).length ≤ (12000 : Nat)))))) then k (AV.tup [AV.str (vwS es bs), AV.agg [AV.int IntKind.i64 0, AV.int IntKind.i64 0]]) else none else none else none) (by kernel_rfl) ?_
    rw [← hk, h7]
    exact Eq.trans (cond_t (and_t h1 (and_t h2 (and_t h3 h4)))) (Eq.trans (cond_f rfl) (Eq.trans (cond_t (and_t h1 (and_t h2 h3))) (cond_t (and_t h1 (and_t h2 (and_t h3 (and_t h4 (and_t h5 h6))))))))
  · cases h
noncomputable def G9 : Env := { pure := [(29, ofT F29), (30, ofT F30), (19, ofT F19), (13, ofT F13), (15, ofT F15)] }
theorem g9 : GOK Tryz.prog G9 := GOK.also (GOK.also (GOK.also (GOK.also (GOK.also g0 ok15) ok13) ok19) ok30) ok29
def fmOK (es bs : List AV) : Bool := (decide (es.length ≤ 1000 ∧ bs.length ≤ 1000000) && (es.all okF && (es.all okV && (es.all noT && (bs.all bE && (decide ((cnV es bs).length ≤ 20000) && (cnV es bs).all bE)))))) && (vdC es bs == 0 && ckC es bs == 0)
noncomputable def F9 : List AV → Tr AV
  | [.agg [.slv (.agg [.str, .str]) es, .slv (.int .u8) bs], .agg [.slv (.agg [.str, .str]) fs, .slv (.int .u8) cs]] => .gd (fmOK es bs && fmOK fs cs) (.leaf (.tup [.bool (strAV (frm es bs) == strAV (frm fs cs)), .agg [.int .i64 0, .int .i64 0]]))
  | _ => .no
theorem ok9 : SumOK Tryz.prog 9 (ofT F9) ∧ SNat (ofT F9) := by
  refine fn0 g9 Tryz.func9 (by kernel_rfl) fun ρ avs k r h => ?_
  unfold F9 at h
  split at h
  · rename_i es bs fs cs
    obtain ⟨hc, hk⟩ := gd_some h
    obtain ⟨hA, hB⟩ := (Bool.and_eq_true _ _).mp hc
    unfold fmOK at hA hB
    obtain ⟨hA, hA2⟩ := (Bool.and_eq_true _ _).mp hA
    obtain ⟨hB, hB2⟩ := (Bool.and_eq_true _ _).mp hB
    obtain ⟨a1, a2⟩ := (Bool.and_eq_true _ _).mp hA2
    obtain ⟨b1, b2⟩ := (Bool.and_eq_true _ _).mp hB2
    have a1 : vdC es bs = 0 := eq_of_beq a1
    have a2 : ckC es bs = 0 := eq_of_beq a2
    have b1 : vdC fs cs = 0 := eq_of_beq b1
    have b2 : ckC fs cs = 0 := eq_of_beq b2
    refine Eq.trans (b := have c80 := [AV.int IntKind.i64 0, AV.int IntKind.i64 0]; have c81 := (fs.all okF && (fs.all okV && (fs.all noT && (cs.all bE && (decide ((cnV fs cs).length ≤ (20000 : Nat)) && (cnV fs cs).all bE))))); have c82 := (AV.tup [AV.bool false, AV.agg [AV.int IntKind.i64 (vdC fs cs), AV.int IntKind.i64 (-10 : Int)]]); have c83 := (AV.tup [AV.bool false, AV.agg [AV.int IntKind.i64 (ckC fs cs), AV.int IntKind.i64 (-10 : Int)]]); have c84 := (AV.tup [AV.bool (strAV [] == strAV []), AV.agg c80]); bif decide (es.length ≤ (1000 : Nat) ∧ bs.length ≤ (1000000 : Nat)) && (es.all okF && (es.all okV && (es.all noT && (bs.all bE && (decide ((cnV es bs).length ≤ (20000 : Nat)) && (cnV es bs).all bE))))) then bif vdC es bs != (0 : Int) then bif vdC es bs != (0 : Int) then k (AV.tup [AV.bool false, AV.agg [AV.int IntKind.i64 (vdC es bs), AV.int IntKind.i64 (vdI es bs)]]) else bif decide (fs.length ≤ (1000 : Nat) ∧ cs.length ≤ (1000000 : Nat)) && c81 then bif vdC fs cs != (0 : Int) then bif vdC fs cs != (0 : Int) then k c82 else k c84 else bif ckC fs cs != (0 : Int) then bif ckC fs cs != (0 : Int) then k c83 else k c84 else k (AV.tup [AV.bool (strAV [] == strAV (frm fs cs)), AV.agg c80]) else none else bif ckC es bs != (0 : Int) then bif ckC es bs != (0 : Int) then k (AV.tup [AV.bool false, AV.agg [AV.int IntKind.i64 (ckC es bs), AV.int IntKind.i64 (-9 : Int)]]) else bif decide (fs.length ≤ (1000 : Nat) ∧ cs.length ≤ (1000000 : Nat)) && c81 then bif vdC fs cs != (0 : Int) then bif vdC fs cs != (0 : Int) then k c82 else k c84 else bif ckC fs cs != (0 : Int) then bif ckC fs cs != (0 : Int) then k c83 else k c84 else k (AV.tup [AV.bool (strAV [] == strAV (frm fs cs)), AV.agg c80]) else none else bif decide (fs.length ≤ (1000 : Nat) ∧ cs.length ≤ (1000000 : Nat)) && c81 then bif vdC fs cs != (0 : Int) then bif vdC fs cs != (0 : Int) then k c82 else k (AV.tup [AV.bool (strAV (frm es bs) == strAV []), AV.agg c80]) else bif ckC fs cs != (0 : Int) then bif ckC fs cs != (0 : Int) then k c83 else k (AV.tup [AV.bool (strAV (frm es bs) == strAV []), AV.agg c80]) else k (AV.tup [AV.bool (strAV (frm es bs) == strAV (frm fs cs)), AV.agg c80]) else none else none) (by kernel_rfl) ?_
    conv => zeta
    rw [← hk, a1, a2, b1, b2]
    exact Eq.trans (cond_t hA) (Eq.trans (cond_f rfl) (Eq.trans (cond_f rfl) (Eq.trans (cond_t hB) (Eq.trans (cond_f rfl) (cond_f rfl)))))
  · cases h
end Go.Proofs.YtpmlhkoianekfaaGreatDoor


namespace Go.Proofs.YtpmlhkoianekfaaGreatDoor
open Go.Ev
theorem byt_all {l : List AV} (h : Byt l) : l.all bE = true := List.all_eq_true.2 fun x hx => by
  obtain ⟨n, hn, rfl⟩ := h x hx
  show (hasSh (.int .u8) (AV.int .u8 (n : Int)) && inR (n : Int) 0 255) = true
  exact and_t rfl (inR_of (by omega) (by omega))
theorem byt_nil : Byt [] := fun _ h => by cases h
theorem byt_drop {l : List AV} (h : Byt l) (n : Nat) : Byt (l.drop n) := fun x hx => h x (List.mem_of_mem_drop hx)
theorem qL_byt : ∀ (f : Nat) (r : List AV) (c : Int), Byt r → Byt (qL f r c).1 ∧ (qL f r c).1.length ≤ 6 * r.length
  | 0, _, _, _ => ⟨byt_nil, Nat.zero_le _⟩
  | _ + 1, [], _, _ => ⟨byt_nil, Nat.zero_le _⟩
  | f + 1, x :: t, c, h => by
    show Byt ((st16 x t c).1 ++ (qL f (bif crlfB (x :: t) then t.drop 1 else t) (st16 x t c).2).1) ∧ ((st16 x t c).1 ++ (qL f (bif crlfB (x :: t) then t.drop 1 else t) (st16 x t c).2).1).length ≤ _
    obtain ⟨n, hn, rfl⟩ := h x (List.mem_cons_self ..)
    have hr : Byt (bif crlfB (AV.int .u8 (n : Int) :: t) then t.drop 1 else t) ∧ (bif crlfB (AV.int .u8 (n : Int) :: t) then t.drop 1 else t).length ≤ t.length := by
      cases crlfB (AV.int .u8 (n : Int) :: t)
      · exact ⟨h.tail, Nat.le_refl _⟩
      · exact ⟨byt_drop h.tail 1, by rw [cond_true, List.length_drop]; omega⟩
    obtain ⟨i1, i2⟩ := qL_byt f _ (st16 (.int .u8 (n : Int)) t c).2 hr.1
    have hs : Byt (st16 (.int .u8 (n : Int)) t c).1 ∧ (st16 (.int .u8 (n : Int)) t c).1.length ≤ 6 := by
      have hi : iE (AV.int .u8 (n : Int)) = n := rfl
      have hb := (sgn_byt hn t).1
      have hl := (sgn_len (n : Int) t).2
      unfold st16
      rw [hi]
      cases crlfB (AV.int .u8 (n : Int) :: t)
      · rw [cond_false]
        cases decide (c + ((sgn (n : Int) t).length : Nat) > lim16 t)
        · exact ⟨hb, by show (sgn (n : Int) t).length ≤ 6; omega⟩
        · refine ⟨Byt.app (fun y hy => ?_) hb, by show ([AV.int .u8 61, .int .u8 13, .int .u8 10] ++ sgn (n : Int) t).length ≤ 6; rw [List.length_append]; show 3 + _ ≤ 6; omega⟩
          simp only [List.mem_cons, List.not_mem_nil, or_false] at hy
          rcases hy with rfl | rfl | rfl
          · exact ⟨61, by decide, rfl⟩
          · exact ⟨13, by decide, rfl⟩
          · exact ⟨10, by decide, rfl⟩
      · refine ⟨fun y hy => ?_, by show 2 ≤ 6; omega⟩
        have hy : y ∈ [AV.int .u8 13, .int .u8 10] := hy
        simp only [List.mem_cons, List.not_mem_nil, or_false] at hy
        rcases hy with rfl | rfl
        · exact ⟨13, by decide, rfl⟩
        · exact ⟨10, by decide, rfl⟩
    refine ⟨hs.1.app i1, ?_⟩
    rw [List.length_append, List.length_cons]
    have := hr.2
    have h3 := hs.2
    omega
theorem b64C_byt (v : Nat) : Byt [b64C v] := fun x hx => by
  rw [List.mem_singleton] at hx
  exact ⟨(b64A.getD v 0).toNat, UInt8.toNat_lt _, hx⟩
theorem g4_byt : ∀ es : List AV, Byt (g4 es)
  | [] => byt_nil
  | [a] => ((b64C_byt _).app (b64C_byt _)).app ((byt_lit (n := 61) (by decide)).app (byt_lit (n := 61) (by decide)))
  | [a, b] => ((b64C_byt _).app (b64C_byt _)).app ((b64C_byt _).app (byt_lit (n := 61) (by decide)))
  | a :: b :: c :: _ => ((b64C_byt _).app (b64C_byt _)).app ((b64C_byt _).app (b64C_byt _))
theorem crlf_byt : Byt [c13, c10] := (byt_lit (n := 13) (by decide)).app (byt_lit (n := 10) (by decide))
theorem eL_byt : ∀ (f : Nat) (es out : List AV) (c : Int), Byt out → Byt (eL f es (out, c)).1
  | 0, _, _, _, h => h
  | f + 1, es, out, c, h => by
    rw [eL_step]
    cases decide (0 < es.length)
    · exact h
    · refine eL_byt f _ _ _ ((h.app ?_).app (g4_byt es))
      unfold pre4
      show Byt (bif c == 76 then [c13, c10] else [])
      cases c == 76
      · exact byt_nil
      · exact crlf_byt
theorem b64E_byt (es : List AV) : Byt (b64E es) := by
  unfold b64E e17
  refine (eL_byt _ es [] 0 byt_nil).app ?_
  cases decide ((eL es.length es ([], 0)).2 > 0)
  · exact byt_nil
  · exact crlf_byt
theorem b64E_len (es : List AV) : (b64E es).length ≤ 6 * es.length + 2 := by
  have h := (eL_inv es.length es [] 0 ⟨by decide, by decide⟩ (by decide)).1
  unfold b64E e17
  rw [List.length_append]
  rw [List.length_nil] at h
  cases decide ((eL es.length es ([], 0)).2 > 0)
  · show _ + 0 ≤ _; omega
  · show _ + 2 ≤ _; omega
theorem kd_names : kd s7b = 0 ∧ kd s64 = 2 ∧ kd sqp = 3 := by decide +kernel
theorem en_all {es : List AV} (h : es.all bE = true) (hl : es.length ≤ 12000) : enC es (chN es) = 0 ∧ enC es s64 = 0 ∧ enV es s64 = b64E es ∧ (chN es = s7b ∨ chN es = s64 ∨ chN es = sqp) ∧ (enV es (chN es)).all bE = true ∧ (enV es (chN es)).length ≤ 80000 ∧ (∀ n, (enV es (chN es)).length ≤ 12000 → n = chN es → deV (enV es (chN es)) n = es) ∧ ((b64E es).length ≤ 12000 → deV (b64E es) s64 = es) := by
  have hd : decide ((es.length : Int) > 12000) = false := decide_eq_false (by omega)
  obtain ⟨k1, k2, k3⟩ := kd_names
  have v64 : enV es s64 = b64E es := by unfold enV; rw [hd, k2]; rfl
  have c64 : enC es s64 = 0 := by unfold enC vaC; rw [k2, hd]; rfl
  have d64 : (b64E es).length ≤ 12000 → deV (b64E es) s64 = es := fun h12 => by
    unfold deV
    rw [k2, decide_eq_false (by omega)]
    exact base64_again h
  have a64 : (b64E es).all bE = true := byt_all (b64E_byt es)
  have l64 := b64E_len es
  unfold chN
  rw [hd]
  simp only [cond_false]
  cases h7 : decide ((wg es 127 0 0).1 < 0)
  · simp only [cond_false]
    cases hq : decide (((b64E es).length : Int) < (q16 es 0).1.length)
    · simp only [cond_false]
      have vq : enV es sqp = (q16 es 0).1 := by unfold enV; rw [hd, k3]; rfl
      have cq : enC es sqp = 0 := by unfold enC vaC; rw [k3, hd]; rfl
      have hb := qL_byt es.length es 0 (byt_of h)
      rw [vq]
      refine ⟨cq, c64, v64, .inr (.inr trivial), byt_all hb.1, by have := hb.2; show (qL es.length es 0).1.length ≤ _; omega, fun n h12 hn => ?_, d64⟩
      subst hn
      unfold deV
      rw [k3, decide_eq_false (by omega)]
      exact quoted_again h (by omega)
    · simp only [cond_true]
      rw [v64]
      refine ⟨c64, c64, rfl, .inr (.inl trivial), a64, by omega, fun n h12 hn => ?_, d64⟩
      subst hn
      exact d64 h12
  · simp only [cond_true]
    have h7' := of_decide_eq_true h7
    have hge : decide ((wg es 127 0 0).1 ≥ 0) = false := decide_eq_false (by omega)
    have v7 : enV es s7b = es := by unfold enV p7V; rw [hd, k1, hge]; rfl
    have c7 : enC es s7b = 0 := by unfold enC p7C; rw [k1, hd, hge]; rfl
    rw [v7]
    refine ⟨c7, c64, v64, .inl trivial, h, by omega, fun n h12 hn => ?_, d64⟩
    subst hn
    unfold deV
    rw [k1, decide_eq_false (by omega)]
    rfl
theorem fd_facts {n v : List UInt8} (h : fdC n v = 0) : n.length ≤ 60 ∧ v.length ≤ 4000 ∧ fdL n v = flL n v := by
  unfold fdC at h
  unfold fdL
  cases h1 : fnB n
  · rw [h1] at h; exact absurd (show (10 : Int) = 0 from h) (by decide)
  · rw [h1] at h
    simp only [Bool.not_true, cond_false] at h ⊢
    cases h2 : decide ((v.length : Int) > 4000)
    · rw [h2] at h
      simp only [cond_false] at h ⊢
      cases h3 : vlB v
      · rw [h3] at h; exact absurd (show (11 : Int) = 0 from h) (by decide)
      · rw [h3] at h
        simp only [Bool.not_true, cond_false] at h ⊢
        cases h4 : (findN (longL (flL n v)) (flL n v).length 0).isSome
        · have h2' := of_decide_eq_false h2
          unfold fnB at h1
          simp only [Bool.and_eq_true, decide_eq_true_eq] at h1
          exact ⟨by omega, by omega, rfl⟩
        · rw [h4] at h; exact absurd (show (1 : Int) = 0 from h) (by decide)
    · rw [h2] at h; exact absurd (show (1 : Int) = 0 from h) (by decide)
def okD (e : AV) : Prop := fdC (fN e) (fV e) = 0
theorem hv_all {es : List AV} (h : hvC es = 0) : ∀ e ∈ es, okD e := fun e he => by
  unfold hvC at h
  cases h1 : decide ((es.length : Int) > 60)
  · rw [h1, cond_false] at h
    cases h2 : findN (badF es) es.length 0 with
    | none =>
      obtain ⟨i, hi, rfl⟩ := List.getElem_of_mem he
      have := findN_none h2 i (Nat.zero_le _) hi
      unfold badF at this
      rw [getD_eq hi] at this
      have : (fdC (fN es[i]) (fV es[i]) == 0) = true := by simpa using this
      exact eq_of_beq this
    | some q =>
      exfalso
      rw [h2] at h
      obtain ⟨_, hq, hb, _⟩ := findN_some h2
      unfold badF at hb
      have hne : fdC (fN (es.getD q .unk)) (fV (es.getD q .unk)) ≠ 0 := by simpa using hb
      exact hne h
  · rw [h1] at h; exact absurd (show (2 : Int) = 0 from h) (by decide)
theorem hv_of {es : List AV} (h : ∀ e ∈ es, okD e) (hl : es.length ≤ 60) : hvC es = 0 := by
  unfold hvC
  rw [decide_eq_false (by omega), cond_false]
  have : findN (badF es) es.length 0 = none := findN_of_none fun j _ hj => by
    have := h es[j] (List.getElem_mem hj)
    unfold okD at this
    unfold badF
    rw [getD_eq hj, this]
    rfl
  rw [this]
  rfl
theorem okD_okV {es : List AV} (h : ∀ e ∈ es, okD e) : es.all okV = true := List.all_eq_true.2 fun e he => by
  have := fd_facts (h e he)
  exact decide_eq_true (by omega)
theorem okD_okF {es : List AV} (h : ∀ e ∈ es, okD e) : es.all okF = true := List.all_eq_true.2 fun e he => by
  have := fd_facts (h e he)
  exact and_t (decide_eq_true (by omega)) (decide_eq_true (by omega))
theorem wr_hd : ∀ es : List AV, (∀ e ∈ es, okD e) → (wrF es).length = (hdS es).length
  | [], _ => rfl
  | e :: es, h => by
    have ih := wr_hd es fun x hx => h x (List.mem_cons_of_mem _ hx)
    have he := (fd_facts (h e (List.mem_cons_self ..))).2.2
    show (wrL (strs (fdL (fN e) (fV e))) ++ wrF es).length = (lnS (strs (flL (fN e) (fV e))) ++ hdS es).length
    rw [List.length_append, List.length_append, ih, he, wrL_strs, lnS_strs]
theorem mf_ok {es bs : List AV} (h : ∀ e ∈ es, okD e) (hm : mfC es bs = 0) : es.length ≤ 60 ∧ bs.length ≤ 12000 ∧ vdC es bs = 0 ∧ ckC es bs = 0 := by
  unfold mfC at hm
  cases h1 : fsC es != 0
  · rw [h1, cond_false] at hm
    have hf : fsC es = 0 := by simpa using h1
    have h60 : es.length ≤ 60 := by
      unfold fsC at hf
      cases h2 : decide ((es.length : Int) > 60)
      · have := of_decide_eq_false h2; omega
      · rw [h2] at hf; exact absurd (show (2 : Int) = 0 from hf) (by decide)
    cases h3 : decide ((bs.length : Int) > 12000)
    · rw [h3, cond_false] at hm
      have h3 := of_decide_eq_false h3
      cases h4 : decide (((bytesAV (hdS es ++ [13, 10])).length : Int) + bs.length > 12000)
      · rw [h4, cond_false] at hm
        have h4 := of_decide_eq_false h4
        rw [bytesAV_length, List.length_append] at h4
        have hv := hv_of h h60
        have hw := wr_hd es h
        have hl : (wrF es ++ two ++ bs).length = (hdS es).length + 2 + bs.length := by rw [List.length_append, List.length_append, hw]; rfl
        have h2 : ([13, 10] : List UInt8).length = 2 := rfl
        rw [h2] at h4
        have hbd : (bd bs 0 0).1 = 0 := by
          have hc : (bd bs 0 0).1 = 0 ∨ (bd bs 0 0).1 = 11 ∨ (bd bs 0 0).1 = 1 := bdL_code bs _ _ _
          unfold mbC at hm
          rcases hc with e | e | e
          · exact e
          · rw [e] at hm; exact absurd (show (11 : Int) = 0 from hm) (by decide)
          · rw [e] at hm; exact absurd (show (1 : Int) = 0 from hm) (by decide)
        refine ⟨h60, by omega, ?_, ?_⟩
        · unfold vdC
          rw [hv, decide_eq_false (show ¬ ((wrF es ++ two ++ bs).length : Int) > 12000 by omega)]
          exact hm
        · unfold ckC
          rw [hv, decide_eq_false (show ¬ (bs.length : Int) > 12000 by omega)]
          exact hbd
      · rw [h4] at hm; exact absurd (show (1 : Int) = 0 from hm) (by decide)
    · rw [h3] at hm; exact absurd (show (1 : Int) = 0 from hm) (by decide)
  · rw [h1, cond_true] at hm
    rw [hm] at h1
    exact absurd h1 (by decide)
theorem chN_len (es : List AV) : (chN es).length ≤ 16 := by
  unfold chN
  cases decide ((es.length : Int) > 12000) <;> cases decide ((wg es 127 0 0).1 < 0) <;> cases decide (((b64E es).length : Int) < (q16 es 0).1.length) <;> decide
theorem chN_big {es : List AV} (h : es.length > 12000) : chN es = [] ∧ vaC es = 1 := by
  unfold chN vaC
  rw [decide_eq_true (show (es.length : Int) > 12000 by omega)]
  exact ⟨rfl, rfl⟩
theorem va_small {es : List AV} (h : es.length ≤ 12000) : vaC es = 0 := by
  unfold vaC
  rw [decide_eq_false (show ¬ (es.length : Int) > 12000 by omega)]
  rfl
theorem vl_hv {es : List AV} {n : List UInt8} (h : vl20C es n = 0) : hvC es = 0 := by
  unfold vl20C at h
  cases h1 : hvC es == 0
  · rw [h1] at h; exact h
  · exact eq_of_beq h1
theorem wo_eq {es : List AV} {n : List UInt8} (h : (vl20C es n != 0) = false) : woV es n = es.filter fun e => !eqE n e := by unfold woV; rw [h]; rfl
theorem wo_nil {es : List AV} {n : List UInt8} (h : (vl20C es n != 0) = true) : woV es n = [] := by unfold woV; rw [h]; rfl
theorem wo_sub (es : List AV) (n : List UInt8) : (woV es n).length ≤ es.length ∧ ∀ p : AV → Bool, es.all p = true → (woV es n).all p = true := by
  cases h : vl20C es n != 0
  · rw [wo_eq h]
    exact ⟨List.length_filter_le _ _, fun p hp => List.all_eq_true.2 fun x hx => List.all_eq_true.1 hp x (List.mem_filter.1 hx).1⟩
  · rw [wo_nil h]
    exact ⟨Nat.zero_le _, fun p _ => rfl⟩
def withE (o : List AV) (nm : List UInt8) : List AV := o ++ [.agg [.str cTE, .str nm]]
theorem te_ok : okD (.agg [.str cTE, .str s7b]) ∧ okD (.agg [.str cTE, .str s64]) ∧ okD (.agg [.str cTE, .str sqp]) := by
  unfold okD
  exact ⟨by decide +kernel, by decide +kernel, by decide +kernel⟩
theorem te_eq : eqF cTE cTE = true ∧ eqF cTE cT = false := by decide +kernel
theorem withE_ok {o : List AV} {nm : List UInt8} (ho : ∀ e ∈ o, okD e) (hn : nm = s7b ∨ nm = s64 ∨ nm = sqp) : ∀ e ∈ withE o nm, okD e := fun e he => by
  rcases List.mem_append.1 he with h | h
  · exact ho e h
  · rw [List.mem_singleton] at h
    obtain ⟨a, b, c⟩ := te_ok
    rcases hn with rfl | rfl | rfl
    · rw [h]; exact a
    · rw [h]; exact b
    · rw [h]; exact c
theorem withE_noT {o : List AV} {nm : List UInt8} (ho : ∀ e ∈ o, eqF (fN e) cT = false) : (withE o nm).all noT = true := List.all_eq_true.2 fun e he => by
  rcases List.mem_append.1 he with h | h
  · unfold noT; rw [ho e h]; rfl
  · rw [List.mem_singleton] at h
    rw [h]
    show (!eqF cTE cT) = true
    rw [te_eq.2]; rfl
theorem withE_len (o : List AV) (nm : List UInt8) : (withE o nm).length = o.length + 1 := by unfold withE; rw [List.length_append]; rfl
theorem cn_last {o x es : List AV} {nm : List UInt8} (ho : ∀ e ∈ o, eqF (fN e) cTE = false) (hc : deC x nm ≠ 18) (hd : deV x nm = es) : cnV (withE o nm) x = es := by
  have hl := withE_len o nm
  have hlast : (withE o nm).getD o.length .unk = .agg [.str cTE, .str nm] := by
    have hq' : o.length < (o ++ [AV.agg [AV.str cTE, AV.str nm]]).length := by rw [List.length_append]; exact Nat.lt_succ_self _
    show (o ++ [AV.agg [AV.str cTE, AV.str nm]]).getD o.length .unk = _
    rw [getD_eq hq', List.getElem_append_right (Nat.le_refl _)]
    simp
  have hte : isTE (withE o nm) x o.length = true := by
    unfold isTE
    rw [hlast]
    refine and_t te_eq.1 ?_
    show (deC x nm != 18) = true
    simpa using hc
  unfold cnV
  cases hf : findN (isTE (withE o nm) x) (withE o nm).length 0 with
  | none => rw [findN_none hf o.length (Nat.zero_le _) (by omega)] at hte; cases hte
  | some q =>
    obtain ⟨_, hq, hb, hmin⟩ := findN_some hf
    have hqo : q = o.length := by
      rcases Nat.lt_trichotomy q o.length with h | h | h
      · exfalso
        unfold isTE at hb
        have h1 := ((Bool.and_eq_true _ _).mp hb).1
        have h2 : (withE o nm).getD q .unk = o[q] := by
          have hq' : q < (o ++ [AV.agg [AV.str cTE, AV.str nm]]).length := hq
          show (o ++ [AV.agg [AV.str cTE, AV.str nm]]).getD q .unk = _
          rw [getD_eq hq', List.getElem_append_left h]
        rw [h2, ho _ (List.getElem_mem h)] at h1
        cases h1
      · exact h
      · omega
    subst hqo
    show deV x (fV ((withE o nm).getD o.length .unk)) = es
    rw [hlast]
    exact hd
theorem fmS_app (a b : List AV) : fmS (a ++ b) = fmS a ++ fmS b := by unfold fmS; rw [List.flatMap_append]
theorem fm_withE (o : List AV) (nm : List UInt8) : fmS (withE o nm) = fmS o := by
  unfold withE
  rw [fmS_app]
  have : fmS [.agg [.str cTE, .str nm]] = [] := by
    show (bif !eqF cTE sRc && !eqF cTE cTE then fldF cTE nm else []) ++ [] = []
    rw [te_eq.1, Bool.not_true, Bool.and_false]
    rfl
  rw [this, List.append_nil]
theorem frm_withE {o x y : List AV} {n m : List UInt8} (h : cnV (withE o n) x = cnV (withE o m) y) : frm (withE o n) x = frm (withE o m) y := by
  unfold frm frS
  rw [fm_withE, fm_withE, h]
theorem vw_withE {o x y : List AV} {n m : List UInt8} (h : cnV (withE o n) x = cnV (withE o m) y) : vwS (withE o n) x = vwS (withE o m) y := by unfold vwS; rw [h]
theorem de_ne {x : List AV} {nm : List UInt8} (hx : x.length ≤ 12000) (hn : nm = s7b ∨ nm = s64 ∨ nm = sqp) : deC x nm ≠ 18 := by
  have hv := va_small hx
  obtain ⟨k1, k2, k3⟩ := kd_names
  unfold deC
  rcases hn with rfl | rfl | rfl
  · rw [k1]; show vaC x ≠ 18; rw [hv]; decide
  · rw [k2]; show vaC x ≠ 18; rw [hv]; decide
  · rw [k3]; show vaC x ≠ 18; rw [hv]; decide
theorem ready {o x es : List AV} {nm : List UInt8} (h1 : ∀ e ∈ o, okD e) (h2 : ∀ e ∈ o, eqF (fN e) cT = false) (h3 : ∀ e ∈ o, eqF (fN e) cTE = false) (hn : nm = s7b ∨ nm = s64 ∨ nm = sqp) (hx : x.all bE = true) (he : es.all bE = true) (hel : es.length ≤ 12000) (hd : x.length ≤ 12000 → deV x nm = es) (hm : mfC (withE o nm) x = 0) :
    cnV (withE o nm) x = es ∧ fmOK (withE o nm) x = true ∧ (small (withE o nm).length && ((withE o nm).all okF && ((withE o nm).all noT && (small x.length && (x.all bE && (decide ((cnV (withE o nm) x).length ≤ 12000) && ckC (withE o nm) x == 0)))))) = true := by
  have hok := withE_ok h1 hn
  obtain ⟨m1, m2, m3, m4⟩ := mf_ok hok hm
  have hcn := cn_last h3 (de_ne m2 hn) (hd m2)
  have f1 := okD_okF hok
  have f2 := okD_okV hok
  have f3 := withE_noT (nm := nm) h2
  refine ⟨hcn, ?_, ?_⟩
  · unfold fmOK
    rw [hcn, m3, m4]
    exact and_t (and_t (decide_eq_true ⟨by omega, by omega⟩) (and_t f1 (and_t f2 (and_t f3 (and_t hx (and_t (decide_eq_true (by omega)) he)))))) rfl
  · rw [hcn, m4]
    exact and_t (decide_eq_true (by omega)) (and_t f1 (and_t f3 (and_t (decide_eq_true (by omega)) (and_t hx (and_t (decide_eq_true (by omega)) rfl)))))
end Go.Proofs.YtpmlhkoianekfaaGreatDoor


namespace Go.Proofs.YtpmlhkoianekfaaGreatDoor
open Go.Ev
def F4 : List AV → Tr AV
  | [] => .leaf (.bool true)
  | _ => .no
noncomputable def G3 : Env := { pure := [(4, ofT F4), (5, ofT F5), (6, ofT F6), (7, ofT F7), (8, ofT F8), (9, ofT F9), (10, ofT F10)] }
theorem law3 (es fs : List AV) (he : es.all bE = true) (hs : es.length ≤ 140737488351232) (hf : fs.all okF = true) (hfs : fs.all (hasSh fsh) = true) (hfl : fs.length ≤ 140737488351232) : evF Tryz.prog G3 [] Tryz.f3 AV [.slv (.int .u8) es, .slv (.agg [.str, .str]) fs] some = some (.bool true) := by
  refine Eq.trans (b := have c80 := (woV (woV fs cTE) cT ++ [AV.agg [AV.str cTE, AV.str (chN es)]]); have c81 := (woV (woV fs cTE) cT ++ [AV.agg [AV.str cTE, AV.str s64]]); bif small es.length && es.all bE then bif small (chN es).length && (small es.length && es.all bE) then bif small s64.length && (small es.length && es.all bE) then bif vaC es != (0 : Int) then bif vaC es == (0 : Int) then some (AV.bool true) else some (AV.bool (chN es == ([] : List UInt8))) else bif enC es (chN es) != (0 : Int) then bif vaC es == (0 : Int) then some (AV.bool true) else some (AV.bool (chN es == ([] : List UInt8))) else bif enC es s64 != (0 : Int) then bif vaC es == (0 : Int) then some (AV.bool true) else some (AV.bool (chN es == ([] : List UInt8))) else bif small fs.length && (fs.all okF && (fs.all (hasSh fsh) && small cTE.length)) then bif small (woV fs cTE).length && ((woV fs cTE).all okF && ((woV fs cTE).all (hasSh fsh) && small cT.length)) then bif vl20C fs cTE != (0 : Int) then bif vl20C fs cTE == (0 : Int) then some (AV.bool true) else some (AV.bool ((↑(woV fs cTE).length : Int) == (0 : Int))) else bif vl20C (woV fs cTE) cT != (0 : Int) then bif vl20C fs cTE == (0 : Int) then some (AV.bool true) else some (AV.bool ((↑(woV fs cTE).length : Int) == (0 : Int))) else bif roomB (woV (woV fs cTE) cT).length (Tryz.prog.bytesOf 34) then bif roomB ((woV (woV fs cTE) cT).length + [AV.agg [AV.str cTE, AV.str (chN es)]].length) (Tryz.prog.bytesOf 34) then bif roomB (woV (woV fs cTE) cT).length (Tryz.prog.bytesOf 34) then bif roomB ((woV (woV fs cTE) cT).length + [AV.agg [AV.str cTE, AV.str s64]].length) (Tryz.prog.bytesOf 34) then bif decide (c80.length ≤ (1000 : Nat) ∧ (enV es (chN es)).length ≤ (1000000 : Nat)) && c80.all okV then bif mfC c80 (enV es (chN es)) != (0 : Int) then some (AV.bool true) else bif decide (c81.length ≤ (1000 : Nat) ∧ (enV es s64).length ≤ (1000000 : Nat)) && c81.all okV then bif mfC c81 (enV es s64) != (0 : Int) then some (AV.bool true) else bif fmOK c80 (enV es (chN es)) && fmOK c81 (enV es s64) then bif small c80.length && (c80.all okF && (c80.all noT && (small (enV es (chN es)).length && ((enV es (chN es)).all bE && (decide ((cnV c80 (enV es (chN es))).length ≤ (12000 : Nat)) && ckC c80 (enV es (chN es)) == (0 : Int)))))) then bif small c81.length && (c81.all okF && (c81.all noT && (small (enV es s64).length && ((enV es s64).all bE && (decide ((cnV c81 (enV es s64)).length ≤ (12000 : Nat)) && ckC c81 (enV es s64) == (0 : Int)))))) then bif strAV (frm c80 (enV es (chN es))) == strAV (frm c81 (enV es s64)) then some (AV.bool (vwS c80 (enV es (chN es)) == vwS c81 (enV es s64))) else some (AV.bool false) else none else none else none else none else none else none else none else none else none else none else none else none else none else none) (by kernel_rfl) ?_
  conv => zeta
  have hse : small es.length = true := decide_eq_true (by omega)
  have hch : small (chN es).length = true := decide_eq_true (by have := chN_len es; omega)
  have hs64 : small s64.length = true := by decide
  refine Eq.trans (cond_t (and_t hse he)) (Eq.trans (cond_t (and_t hch (and_t hse he))) (Eq.trans (cond_t (and_t hs64 (and_t hse he))) ?_))
  by_cases hbig : es.length > 12000
  · obtain ⟨c1, c2⟩ := chN_big hbig
    rw [c1, c2]
    rfl
  have hel : es.length ≤ 12000 := by omega
  obtain ⟨e1, e2, e3, e4, e5, e6, e7, e8⟩ := en_all he hel
  have e64 := byt_all (b64E_byt es)
  have l64 := b64E_len es
  rw [va_small hel, e1, e2, e3]
  refine Eq.trans (cond_f rfl) (Eq.trans (cond_f rfl) (Eq.trans (cond_f rfl) ?_))
  obtain ⟨w1, w2⟩ := wo_sub fs cTE
  refine Eq.trans (cond_t (and_t (decide_eq_true (by omega)) (and_t hf (and_t hfs (by decide))))) (Eq.trans (cond_t (and_t (decide_eq_true (by omega)) (and_t (w2 _ hf) (and_t (w2 _ hfs) (by decide))))) ?_)
  cases h1 : vl20C fs cTE != 0
  · have h1' : vl20C fs cTE = 0 := by simpa using h1
    refine Eq.trans (cond_f rfl) ?_
    cases h2 : vl20C (woV fs cTE) cT != 0
    · refine Eq.trans (cond_f rfl) ?_
      have hv := vl_hv h1'
      have hD := hv_all hv
      have h60 : fs.length ≤ 60 := hv_len (by rw [hv]; rfl)
      have o1 := wo_eq h1
      have o2 := wo_eq h2
      obtain ⟨x1, x2⟩ := wo_sub (woV fs cTE) cT
      generalize hO : woV (woV fs cTE) cT = o at *
      have hoD : ∀ e ∈ o, okD e ∧ eqF (fN e) cTE = false ∧ eqF (fN e) cT = false := fun e he' => by
        rw [o2] at he'
        obtain ⟨ha, hb⟩ := List.mem_filter.1 he'
        rw [o1] at ha
        obtain ⟨hc, hd⟩ := List.mem_filter.1 ha
        exact ⟨hD e hc, by simpa [eqE] using hd, by simpa [eqE] using hb⟩
      have q1 : ∀ e ∈ o, okD e := fun e h => (hoD e h).1
      have q2 : ∀ e ∈ o, eqF (fN e) cT = false := fun e h => (hoD e h).2.2
      have q3 : ∀ e ∈ o, eqF (fN e) cTE = false := fun e h => (hoD e h).2.1
      have ol : o.length ≤ 60 := by omega
      have r1 : roomB o.length (Tryz.prog.bytesOf 34) = true := roomB_small (by omega) by34
      have r2 : ∀ x : AV, roomB (o.length + [x].length) (Tryz.prog.bytesOf 34) = true := fun x => roomB_small (by rw [List.length_singleton]; omega) by34
      refine Eq.trans (cond_t r1) (Eq.trans (cond_t (r2 _)) (Eq.trans (cond_t r1) (Eq.trans (cond_t (r2 _)) ?_)))
      have k1 := withE_ok q1 e4
      have k2 := withE_ok (nm := s64) q1 (.inr (.inl rfl))
      refine Eq.trans (cond_t (and_t (decide_eq_true ⟨by show (withE o (chN es)).length ≤ _; rw [withE_len]; omega, by omega⟩) (okD_okV k1))) ?_
      cases m1 : mfC (withE o (chN es)) (enV es (chN es)) != 0
      · have m1' : mfC (withE o (chN es)) (enV es (chN es)) = 0 := by simpa using m1
        refine Eq.trans (cond_f m1) (Eq.trans (cond_t (and_t (decide_eq_true ⟨by show (withE o s64).length ≤ _; rw [withE_len]; omega, by omega⟩) (okD_okV k2))) ?_)
        cases m2 : mfC (withE o s64) (b64E es) != 0
        · have m2' : mfC (withE o s64) (b64E es) = 0 := by simpa using m2
          obtain ⟨a1, a2, a3⟩ := ready q1 q2 q3 e4 e5 he hel (fun h => e7 _ h rfl) m1'
          obtain ⟨b1, b2, b3⟩ := ready (nm := s64) q1 q2 q3 (.inr (.inl rfl)) e64 he hel e8 m2'
          refine Eq.trans (cond_f m2) (Eq.trans (cond_t (and_t a2 b2)) (Eq.trans (cond_t a3) (Eq.trans (cond_t b3) ?_)))
          show (bif strAV (frm (withE o (chN es)) (enV es (chN es))) == strAV (frm (withE o s64) (b64E es)) then some (AV.bool (vwS (withE o (chN es)) (enV es (chN es)) == vwS (withE o s64) (b64E es))) else some (AV.bool false)) = _
          rw [frm_withE (a1.trans b1.symm), vw_withE (a1.trans b1.symm), beq_self_eq_true, beq_self_eq_true]
          rfl
        · exact cond_t m2
      · exact cond_t m1
    · refine Eq.trans (cond_t rfl) ?_
      rw [h1']
      rfl
  · have hz : (vl20C fs cTE == 0) = false := by simpa using h1
    refine Eq.trans (cond_t rfl) ?_
    rw [hz, wo_nil h1]
    rfl
end Go.Proofs.YtpmlhkoianekfaaGreatDoor


namespace Go.Proofs.YtpmlhkoianekfaaGreatDoor
open Go.Ev Go.RowKit
def flA : List AV := [.agg [.str [65], .str [98]]]
def F37 : List AV → Tr AV
  | [.slv (.int .u8) es] => .gd (isL es B11) (.leaf (.tup [.slv (.agg [.str, .str]) flA, .int .i64 8, .agg [.int .i64 0, .int .i64 0]]))
  | _ => .no
theorem ok37 : SumOK Tryz.prog 37 (ofT F37) ∧ SNat (ofT F37) := by
  refine ⟨fun ρ w S avs args k r hS hv h => (inU g37 Tryz.func37).1 ρ w S avs args k r hS hv ?_, snat_ofT F37⟩
  have h' : (F37 avs).run k = some r := h
  unfold F37 at h'
  split at h'
  · rename_i es
    obtain ⟨hc, hk⟩ := gd_some h'
    rw [isL_eq hc]
    refine Eq.trans (b := k (.tup [.slv (.agg [.str, .str]) flA, .int .i64 8, .agg [.int .i64 0, .int .i64 0]])) (by kernel_rfl) ?_
    exact hk
  · cases h'
noncomputable def G12 : Env := { pure := [(37, ofT F37), (38, ofT F38), (35, ofT F35), (19, ofT F19), (15, ofT F15)] }
theorem g12 : GOK Tryz.prog G12 := GOK.also (GOK.also (GOK.also (GOK.also (GOK.also g0 ok15) ok19) ok35) ok38) ok37
noncomputable def G11 : Env := { pure := [(35, ofT F35), (36, ofT F36), (19, ofT F19), (15, ofT F15)] }
theorem g11 : GOK Tryz.prog G11 := GOK.also (GOK.also (GOK.also (GOK.also g0 ok15) ok19) ok36) ok35
def isFA : List AV → Bool
  | [.agg [.str a, .str b]] => a == [65] && b == [98]
  | _ => false
theorem isFA_eq : ∀ {es : List AV}, isFA es = true → es = flA
  | [.agg [.str a, .str b]], h => by
    simp only [isFA, Bool.and_eq_true, beq_iff_eq] at h
    obtain ⟨rfl, rfl⟩ := h
    rfl
def F12 : List AV → Tr AV
  | [.slv (.int .u8) es] => .gd (isL es B11) (.leaf (.tup [.agg [.slv (.agg [.str, .str]) flA, .slv (.int .u8) (lsA B3)], .agg [.int .i64 0, .int .i64 0]]))
  | _ => .no
theorem ok12 : SumOK Tryz.prog 12 (ofT F12) ∧ SNat (ofT F12) := by
  refine ⟨fun ρ w S avs args k r hS hv h => (inU g12 Tryz.func12).1 ρ w S avs args k r hS hv ?_, snat_ofT F12⟩
  have h' : (F12 avs).run k = some r := h
  unfold F12 at h'
  split at h'
  · rename_i es
    obtain ⟨hc, hk⟩ := gd_some h'
    rw [isL_eq hc]
    refine Eq.trans (b := k (.tup [.agg [.slv (.agg [.str, .str]) flA, .slv (.int .u8) (lsA B3)], .agg [.int .i64 0, .int .i64 0]])) (by kernel_rfl) ?_
    exact hk
  · cases h'
def F11 : List AV → Tr AV
  | [.agg [.slv (.agg [.str, .str]) fs, .slv (.int .u8) es]] => .gd (isFA fs && isL es B3) (.leaf (.tup [.slv (.int .u8) (lsA B11), .agg [.int .i64 0, .int .i64 0]]))
  | _ => .no
theorem ok11 : SumOK Tryz.prog 11 (ofT F11) ∧ SNat (ofT F11) := by
  refine ⟨fun ρ w S avs args k r hS hv h => (inU g11 Tryz.func11).1 ρ w S avs args k r hS hv ?_, snat_ofT F11⟩
  have h' : (F11 avs).run k = some r := h
  unfold F11 at h'
  split at h'
  · rename_i fs es
    obtain ⟨hc, hk⟩ := gd_some h'
    obtain ⟨hc1, hc2⟩ := (Bool.and_eq_true _ _).mp hc
    rw [isFA_eq hc1, isL_eq hc2]
    refine Eq.trans (b := k (.tup [.slv (.int .u8) (lsA B11), .agg [.int .i64 0, .int .i64 0]])) (by kernel_rfl) ?_
    exact hk
  · cases h'
noncomputable def G4 : Env := { pure := [(11, ofT F11), (12, ofT F12), (9, ofT F9)], conv := true }
theorem g4' : GOK Tryz.prog G4 := GOK.flags (GOK.also (GOK.also (GOK.also g0 ok9) ok12) ok11)
theorem ok4 : SumOK Tryz.prog 4 (ofT F4) ∧ SNat (ofT F4) := by
  refine ⟨fun ρ w S avs args k r hS hv h => (inU g4' Tryz.func4).1 ρ w S avs args k r hS hv ?_, snat_ofT F4⟩
  have h' : (F4 avs).run k = some r := h
  unfold F4 at h'
  split at h'
  · refine Eq.trans (b := bif strAV (frm flA (lsA B3)) == strAV (frm flA (lsA B3)) then k (.bool true) else k (.bool false)) (by kernel_rfl) ?_
    rw [beq_self_eq_true]
    exact h'
  · cases h'
theorem g3 : GOK Tryz.prog G3 := GOK.also (GOK.also (GOK.also (GOK.also (GOK.also (GOK.also (GOK.also g0 ok10) ok9) ok8) ok7) ok6) ok5) ok4
theorem okL3 : SumOK Tryz.prog 3 (evF Tryz.prog G3 [] Tryz.f3) := (inU g3 Tryz.func3).1
end Go.Proofs.YtpmlhkoianekfaaGreatDoor


namespace Go.Proofs.YtpmlhkoianekfaaGreatDoor
open Go.Ev Go.Shelf Go.Lib
theorem hand_shaped {H : Type} {enc : TypeId × Value → H} {a : Assume} {C : Checked} {os : Os} {f : FuncId} {fn : Func} {s : ChangeSpec} {conds : List PathCond} {apart fresh handsOn again : Bool} {X : World → Array Value → Prop}
    (hX : ∀ (w w' : World) (args : Array Value), w.heap = w'.heap → X w args → X w' args)
    (own : ownKnob C.prog.godebug = none) (started : os.Started) (noInit : C.prog.inits.idxOf? f = none) (hfn : C.prog.funcs[f]? = some fn)
    (witness : ∃ (w : World) (tape : Tape) (i : Input), w.os = os ∧ (w.forCall tape i).Shaped C.prog ∧ i.vars = [] ∧ Input.okWide C.prog (w.forCall tape i) .any w.heap.size f i ∧
      ((s.pre enc C.prog fn conds apart (w.forCall tape i).memory i.args ∧ X (w.forCall tape i).memory i.args) ∧ sizedMet enc C.prog fn (OpenSpec.ofChange s) apart (w.forCall tape i).memory i.args) ∧ a.holds C.prog (lone (Frame.enter C.prog f i.args .normal) [] (w.forCall tape i)))
    (contract : ∀ (W : World) (base : Nat) (args : Array Value) (ds gs : List (DataW H)) (before : List MemPlace),
      (∀ (j : Nat) t v, fn.params[j]? = some t → args[j]? = some v → Value.okWide C.prog W .any base t v) →
      DataW.Whole enc C.prog fn.params.toList s.vars apart W args.toList ds gs before →
      (DataW.weightsEach C.prog (fn.params.toList ++ s.plain.varTypes C.prog) (ds ++ gs)).all (· ≤ reachBytes) = true → W.ShapedOpen C.prog → X W args →
      Calls C.prog f args W fun e W' => ∃ v, e = .returned v ∧ s.post enc C.prog fn apart fresh handsOn again W args v W') :
    ReturnsInHanded a C os f .any (fun w args => (s.pre enc C.prog fn conds apart w args ∧ X w args) ∧ sizedMet enc C.prog fn (OpenSpec.ofChange s) apart w args) (s.post enc C.prog fn apart fresh handsOn again) := by
  refine returnsInHanded_of_calls own started noInit witness ?_
  intro w tape i _ hsh _ hok hpre _
  obtain ⟨_, _, _, fn', hfn', _, _, _, _, hval⟩ := hok
  obtain rfl : fn' = fn := Option.some.inj (hfn'.symm.trans hfn)
  obtain ⟨⟨⟨ds, gs, before, hw, _⟩, hx⟩, hz⟩ := hpre
  refine (contract (w.forCall tape i) w.heap.size i.args ds gs before hval (DataW.Whole.of_heap (w' := w.forCall tape i) (by rfl) hw) (hz.weights hw) hsh (hX _ _ _ (by rfl) hx)).mono fun e W' ⟨v, he, hp⟩ => ?_
  subst he
  exact ChangeSpec.post_blind hp
theorem kept_cell2 {w w' : World} {v : Value} (h : w.cell? ⟨2, 0, none⟩ = some v) (hk : Kept (fun b => b < w.heap.size) w w') : w'.cell? ⟨2, 0, none⟩ = some v := by
  have h0 : 2 < w.heap.size := cell_block h
  have := hk.block 2 h0
  unfold World.cell? at h ⊢
  rw [this]
  exact h
theorem tabIs_of_reads {P : Program} {W : World} {name : String} {k : IntKind} {zs : List Int} {g : Nat} {t e : TypeId} {n : Nat}
    (hg : P.globalNamed name = some g) (hty : (P.globals[g]?).map (·.type) = some t) (ht : P.underlying t = some (.array n e)) (he : P.underlying e = some (.int k)) (hce : P.cellsOf e = 1) (hct : P.cellsOf t = n)
    (h : VarReads P W name (tabData k zs)) : TabIs P W name k zs := by
  obtain ⟨g', t', cs, fuel, p, hg', ht', hvar, hd⟩ := h
  obtain rfl := Option.some.inj (hg.symm.trans hg')
  obtain rfl := Option.some.inj (hty.symm.trans ht')
  unfold TabIs
  rw [hvar, ← cells_of_tab ht he hce hct hd]
def laidL : List (String × DataW Unit) := Rows.topEncodedSameRow.laid
theorem pow_eq : Rows.laid_internal_strconv_uint64pow10 (H := Unit) = tabData .u64 pow10Tab := by kernel_rfl
theorem mem2 : ("internal/strconv.uint64pow10", tabData .u64 pow10Tab) ∈ laidL := by rw [← pow_eq]; exact .tail _ (.tail _ (.head _))
theorem gP : Tryz.prog.globalNamed "internal/strconv.uint64pow10" = some 3 := by kernel_rfl
theorem glb_of {w : World} (hsh : w.ShapedOpen Tryz.prog) (h : laidMetH Tryz.prog laidL w) : Glb (fun b => b < w.heap.size) w := by
  rw [MakeChecks.laidMetH_plain _ _ _ (by kernel_rfl)] at h
  obtain ⟨m, hm⟩ := cell_of_shapedOpen_int (P := Tryz.prog) (w := w) (g := 2) (t := 3) (zero := #[.int .i64 0]) (k := .i64) hsh (of_decide_eq_true (by kernel_rfl)) (by kernel_rfl) rfl (by kernel_rfl) (by kernel_rfl) Tryz.underlying3
  have ht : TabIs Tryz.prog w "internal/strconv.uint64pow10" .u64 pow10Tab := tabIs_of_reads gP (t := 288) (e := 241) (n := 20) (by kernel_rfl) (by kernel_rfl) (by kernel_rfl) (by kernel_rfl) (by kernel_rfl) (laidMet.reads h mem2)
  exact fun w' hk => ⟨⟨m, kept_cell2 hm hk⟩, TabIs_below (g := 3) (by kernel_rfl) ht hk.below⟩
theorem open_field {v : AV} (h : hasSh fsh v = true) (hf : Fit v) : okF v = true := by
  obtain ⟨cs, rfl, hh⟩ := has_agg h
  obtain ⟨c0, cs, rfl, h0, hh⟩ := hass_cons hh
  obtain ⟨c1, cs, rfl, h1, hh⟩ := hass_cons hh
  obtain rfl := hass_nil hh
  obtain ⟨n, rfl⟩ := has_str h0
  obtain ⟨x, rfl⟩ := has_str h1
  have a := (hf.agg_inv (.str n) (by simp)).str_inv
  have b := (hf.agg_inv (.str x) (by simp)).str_inv
  exact and_t (decide_eq_true (by show n.length ≤ _; omega)) (decide_eq_true (by show x.length ≤ _; omega))
theorem open_byte {v : AV} (h : hasSh (.int .u8) v = true) (hf : Fit v) : bE v = true := by
  obtain ⟨n, rfl⟩ := has_int (k := .u8) (v := v) h
  have := hf.int_inv
  unfold bE
  refine and_t h ?_
  exact this
theorem open_bytes {v : AV} (h : hasSh (.slice (.int .u8)) v = true) (hf : Fit v) : ∃ es, v = .slv (.int .u8) es ∧ es.all bE = true ∧ es.length ≤ 140737488351232 := by
  obtain ⟨es, rfl, e1, e2, e3⟩ := has_sliceR (s := .int .u8) h hf
  exact ⟨es, rfl, List.all_eq_true.2 fun e he => open_byte (e2 e he) (e3 e he), e1⟩
theorem open_fields {v : AV} (h : hasSh (.slice (.agg [.str, .str])) v = true) (hf : Fit v) : ∃ fs, v = .slv (.agg [.str, .str]) fs ∧ fs.all okF = true ∧ fs.all (hasSh fsh) = true ∧ fs.length ≤ 140737488351232 := by
  obtain ⟨fs, rfl, e1, e2, e3⟩ := has_sliceR (s := .agg [.str, .str]) h hf
  exact ⟨fs, rfl, List.all_eq_true.2 fun e he => open_field (e2 e he) (e3 e he), List.all_eq_true.2 e2, e1⟩
end Go.Proofs.YtpmlhkoianekfaaGreatDoor


namespace Go.Proofs.YtpmlhkoianekfaaGreatDoor
open Go
theorem jf0 : Tryz.prog.funcNamed "posthouse/posthousetop.TopEncodedSame" = some 3 := by kernel_rfl
theorem jf1 : Rows.topEncodedSameRow.wf (OpenSpec.ofChange Rows.topEncodedSameSpec) = true := by kernel_rfl
theorem jf2 : laidOutB Tryz.prog = true := by kernel_rfl
theorem jf3 : mapsRowed Tryz.prog = true := by kernel_rfl
theorem jf4 : Tryz.f3.params.all (Tryz.prog.readableRec ·) = true := by kernel_rfl
theorem jf5 : namedTie Tryz.prog Rows.topEncodedSameRow.named Rows.topEncodedSameSpec.vars = true := by kernel_rfl
theorem jf6 : (Rows.topEncodedSameRow.stops == []) = true := by kernel_rfl
theorem jf7 : (Tryz.prog.stops == []) = true := by kernel_rfl
theorem jf8 : (Rows.topEncodedSameRow.knobs == []) = true := by kernel_rfl
theorem jf9 : (Tryz.prog.stopKnobs == []) = true := by kernel_rfl
theorem jf10 : (Rows.topEncodedSameRow.inPlace == Tryz.prog.inPlace 3) = true := by kernel_rfl
theorem jf11 : (Rows.topEncodedSameRow.unfollowed == Tryz.prog.unfollowed 3) = true := by kernel_rfl
theorem jf12 : (Rows.topEncodedSameRow.recurses == Tryz.prog.recurses 3) = true := by kernel_rfl
theorem jf13 : (Rows.topEncodedSameRow.named == Tryz.prog.varsNamed 3) = true := by kernel_rfl
noncomputable abbrev vt : List TypeId := Tryz.f3.params.toList ++ Rows.topEncodedSameSpec.plain.varTypes Tryz.prog
theorem jf14 : (Rows.topEncodedSameRow.maps == vt.any (Tryz.prog.mapsRec ·)) = true := by kernel_rfl
theorem jf15 : (Rows.topEncodedSameRow.ifaces == vt.any (Tryz.prog.ifacesRec ·)) = true := by kernel_rfl
theorem jf16 : (Rows.topEncodedSameRow.mapsOut == Tryz.prog.mapsAmong Tryz.f3.resultTypes.toList) = true := by kernel_rfl
theorem jf17 : (Rows.topEncodedSameRow.loops == vt.any (Tryz.prog.loopsFrom ·)) = true := by kernel_rfl
theorem jf18 : (Rows.topEncodedSameRow.wideKeys == (vt ++ Tryz.f3.resultTypes.toList).any (Tryz.prog.wideKeysFrom ·)) = true := by kernel_rfl
theorem jf19 : Rows.topEncodedSameSpec.vars.all (Tryz.prog.varReadable ·) = true := by kernel_rfl
theorem jf20 : Tryz.f3.resultTypes.all (fun t => Tryz.prog.readableRec t && decide (t < Tryz.prog.types.size)) = true := by kernel_rfl
theorem jf21 : (Rows.topEncodedSameRow.ifacesOut == Tryz.f3.resultTypes.toList.any (Tryz.prog.ifacesRec ·)) = true := by kernel_rfl
theorem jf22 : (Rows.topEncodedSameRow.loopsOut == Tryz.f3.resultTypes.toList.any (Tryz.prog.loopsFrom ·)) = true := by kernel_rfl
theorem jf23 : (Rows.topEncodedSameRow.plainKeys == Tryz.prog.plainKeys) = true := by kernel_rfl
theorem jf24 : Rows.topEncodedSameRow.shortTexts.isNone = true := by kernel_rfl
theorem jf25 : Tryz.prog.stopsHeard = true := by kernel_rfl
theorem jf26 : Tryz.prog.mayEnter = true := by kernel_rfl
theorem jf27 : (Rows.topEncodedSameRow.lifted == Tryz.prog.liftsFinal) = true := by kernel_rfl
theorem jf28 : (Tryz.prog.make == some Rows.topEncodedSameRow.make) = true := by kernel_rfl
theorem jf29 : (Rows.topEncodedSameRow.kinds == (if Rows.topEncodedSameRow.domain.isEmpty then [] else Tryz.f3.params.toList.map fun t => match Tryz.prog.underlying t with | some (.int k) => some k | _ => none)) = true := by kernel_rfl
theorem jf30 : (Rows.topEncodedSameRow.pinned == Rows.topEncodedSameRow.pinnedBy) = true := by kernel_rfl
theorem jf31 : (Rows.topEncodedSameRow.veiled == (vt ++ Tryz.f3.resultTypes.toList).any (Tryz.prog.veiledRec ·)) = true := by kernel_rfl
theorem jf32 : Rows.topEncodedSameRow.veiledFits Tryz.prog Tryz.f3.params.toList (vt ++ Tryz.f3.resultTypes.toList) = true := by kernel_rfl
theorem jf33 : Rows.topEncodedSameRow.wfByText (OpenSpec.ofChange Rows.topEncodedSameSpec) = true := by kernel_rfl
theorem jf34 : true = Tryz.prog.looks [] := by kernel_rfl
theorem jf35 : false = Rows.topEncodedSameRow.goesBy Tryz.prog := by kernel_rfl
theorem jf36 : (Tryz.f3.params.toList.all fun u => !Tryz.prog.wantsStandIn u) = true := by kernel_rfl
theorem jf37 : Tryz.prog.mainIs = some (true, "25143d2385cc408491c76866105f1c5e4f7c597223bf5baec59eab76e63a8908".toList) := by kernel_rfl
end Go.Proofs.YtpmlhkoianekfaaGreatDoor


namespace Go.Proofs.YtpmlhkoianekfaaGreatDoor
open Go
set_option maxRecDepth 100000
theorem and_t2 {a b : Bool} (h : a = true) (k : b = true) : (a && b) = true := by rw [h, k]; rfl
theorem joined : joinedFacts Tryz.prog 3 Tryz.f3 Rows.topEncodedSameSpec Rows.topEncodedSameRow = true := by
  unfold joinedFacts
  exact and_t2 (and_t2 (and_t2 (and_t2 (and_t2 (and_t2 (and_t2 (and_t2 (and_t2 (and_t2 (and_t2 (and_t2 (and_t2 (and_t2 (and_t2 (and_t2 (and_t2 (and_t2 (and_t2 (and_t2 (and_t2 (and_t2 (and_t2 (and_t2 (and_t2 (and_t2 (and_t2 (and_t2 (and_t2 (and_t2 (and_t2 jf1 jf2) jf3) jf4) jf5) jf6) jf7) jf8) jf9) jf10) jf11) jf12) jf13) jf14) jf15) jf16) jf17) jf18) jf19) jf20) jf21) jf22) jf23) jf24) jf25) jf26) jf27) jf28) jf29) jf30) jf31) jf32
end Go.Proofs.YtpmlhkoianekfaaGreatDoor

namespace Go.Proofs.YtpmlhkoianekfaaGreatDoor
open Go.Ev
theorem spec3 (H : Type) : ∀ ds : List (DataW H), ds.length = Tryz.f3.params.size → Rows.topEncodedSameSpec.fn H ds = { results := [.lit (.bool true)], args := ds }
  | [_, _], _ => rfl
set_option maxRecDepth 100000 in
theorem lifted3 (os : Os) (started : os.Started) (H : Type) (enc : TypeId × Value → H) :
    ReturnsInHanded {} Tryz.checked os 3 .any (fun w args => (Rows.topEncodedSameSpec.pre enc Tryz.prog Tryz.f3 Rows.topEncodedSameRow.domain false w args ∧ laidMetH Tryz.prog Rows.topEncodedSameRow.laid w) ∧ sizedMet enc Tryz.prog Tryz.f3 (OpenSpec.ofChange Rows.topEncodedSameSpec) false w args)
      (Rows.topEncodedSameSpec.post enc Tryz.prog Tryz.f3 false true false false) := by
  refine hand_shaped (C := Tryz.checked) (X := fun w _ => laidMetH Tryz.prog Rows.topEncodedSameRow.laid w) (fun _ _ _ hh h => h.of_heap hh) own started (by kernel_rfl) Tryz.func3
    (ChangeSpec.witness_shaped (enc := enc) (C := Tryz.checked) (os := os) (X := fun w _ => laidMetH Tryz.prog Rows.topEncodedSameRow.laid w) false (World.laidAll Tryz.prog os Rows.topEncodedSameRow.laid) #[.slice none 0 0, .slice none 0 0] 8 (World.laidAll_os _ _ _)
      (World.shaped_of_ZipB (by kernel_rfl) (by kernel_rfl)) (by kernel_rfl) (by kernel_rfl) (by kernel_rfl)
      (by rw [MakeChecks.laidMetH_plain _ _ _ (by kernel_rfl)]; exact laidMet_laidAll _ (by kernel_rfl) (by kernel_rfl))) ?_
  intro W base args ds gs before hval hW hz hsh hx
  refine contract_of (bk H) (n := 12) (tb := 4) (F := evF Tryz.prog G3 [] Tryz.f3) (by kernel_rfl) (by kernel_rfl) (by kernel_rfl) rfl (by kernel_rfl) (by kernel_rfl) (spec3 H) (okL3) (fun avs hg => ?_) hval hz hW (glb_of hsh hx)
  have hh : hasAll [.slice (.int .u8), .slice (.agg [.str, .str])] avs = true := hg.has
  obtain ⟨v0, cs, rfl, h0, hh⟩ := hasAll_cons hh
  obtain ⟨v1, cs, rfl, h1, hh⟩ := hasAll_cons hh
  obtain rfl := hasAll_nil hh
  obtain ⟨es, rfl, he, hs⟩ := open_bytes h0 (hg.fit _ (by simp))
  obtain ⟨fs, rfl, hf, hfs, hfl⟩ := open_fields h1 (hg.fit _ (by simp))
  exact law3 es fs he hs hf hfs hfl
theorem row_holds3 : Rows.TopEncodedSameSaid :=
  OpenClaim.holds_of_wide 3 Tryz.f3 rfl rfl rfl rfl rfl rfl rfl ⟨rfl, rfl, rfl, rfl, rfl⟩ rfl rfl rfl rfl rfl jf0 Tryz.func3 joined
    (of_decide_eq_true (by kernel_rfl)) (by unfold Func.isWrapper; first | (rw [if_pos (by decide +kernel)]; kernel_rfl) | (rw [if_neg (by decide +kernel)]; exact ⟨rfl, rfl⟩))
    (fun os started H enc _ => lifted3 os started H enc)
theorem top_encoded_same : Rows.TopEncodedSameCardSaid :=
  Claim7.holds_tied_plain_at .later [] [.data, .data, .data, .data, .sentinel, .sentinel, .pinned] true (true, "25143d2385cc408491c76866105f1c5e4f7c597223bf5baec59eab76e63a8908") true row_holds3 (fun _ h => by cases h) jf33 (fun _ h => by cases h) topEncodedSame_row_tie rfl ⟨rfl, rfl⟩ jf37 rfl
    (fun f fn hf hfn => by
      obtain rfl : f = 3 := Option.some.inj (jf0.symm.trans hf) |>.symm
      obtain rfl : fn = Tryz.f3 := (Option.some.inj (Tryz.func3.symm.trans hfn)).symm
      exact ⟨jf34, fun j t ht => by
        have hm : t ∈ Tryz.f3.params.toList := Array.mem_def.1 (Array.mem_of_getElem? ht)
        exact (show Tryz.prog.wantsStandIn t = false by simpa using List.all_eq_true.1 jf36 t hm)⟩)
    jf35
end Go.Proofs.YtpmlhkoianekfaaGreatDoor
