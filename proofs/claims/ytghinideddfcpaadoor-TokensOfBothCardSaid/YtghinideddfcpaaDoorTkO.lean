/-
  TokensOfBoth, the tied card: for every two texts the call returns true, and the arguments read as before; the listed tables read as the program's text lays them.
-/
import Derived.Test.YtghinideddfcpaaDoorEvYK
import Derived.Laws.EntriesVeiled
import Derived.Test.YtghinideddfcpaaDoorEvZ
import Derived.Lib.MapLaws
import Derived.Lib.RuneCountTail
import Derived.Lib.PathFns
import Derived.Test.YtghinideddfcpaaDoorRows
import Derived.WalkKit
import Derived.ProofKit
import Derived.OpenShut
import Derived.HandedShaped
import Derived.LaidMore
import Derived.Lay
import Derived.SevenTiedAt
import Derived.PinnedBridge
import Derived.Lib.LaidRTab
import Derived.Lib.LaidCase
import Derived.Lib.LaidU8
import Derived.Test.YtghinideddfcpaaDoorCards
import Derived.Test.YtghinideddfcpaaDoorTie
import Derived.Stop.Joined
/-
  The different texts of a slice in order (first); the tokens of a text one by one (each) and all (Collect).
-/
namespace Go.Proofs.YtghinideddfcpaaDoor
open Go.Ev Go.RowKit Go.Lib

/-! first -/
noncomputable def G14 : Env := { pure := [(23, ofT F23)], opens := [(21, ofX F21x), (22, ofX F22x)] }
theorem g14 : GOK Tryd.prog G14 := GOK.alsoX (GOK.alsoX (GOK.also g0 ok23) ok22x) ok21x
def fstL (ss : List (List UInt8)) : List (List UInt8) := (Lib.compact (srtS ss)).take 1000
def F14x : List AV → List Row → Tr XOut
  | [.own p], [.arr false .str e es _sp] => .gd (p == PID && decide (es.length ≤ 1000000)) (.leaf (.slv .str ((fstL (sL es)).map AV.str), [none], []))
  | _, _ => .no
theorem ok14x : XOK Tryd.prog 14 (ofX F14x) ∧ XNat (ofX F14x) := by
  refine ⟨xsum0 (H := [(DROP, 1125899906842624, 0)]) g14 Tryd.func14 (by kernel_rfl) fun ρ avs rows k r h => ?_, xnat_ofX _⟩
  change (F14x avs rows).run _ = some r at h
  unfold F14x at h
  split at h
  · rename_i p e es sp
    obtain ⟨hc, hk⟩ := gd_some h
    simp only [Bool.and_eq_true] at hc
    obtain ⟨hp, hn⟩ := hc
    obtain rfl : p = PID := by simpa using hp
    refine ⟨by simp, fun rows' hsp => ?_⟩
    obtain ⟨sp2, rfl⟩ : ∃ sp2, rows' = [.arr false .str e es (some sp2)] := by
      match rows', hsp with
      | [r1], ⟨⟨sp2, h1, _⟩, _⟩ => exact ⟨sp2, by rw [h1]⟩
    have hn := of_decide_eq_true hn
    refine Eq.trans (b := bif (fun x => PID + x) (0 : Nat) == PID && decide (es.length ≤ (1000000 : Nat)) then bif (fun x => PID + x) (0 : Nat) == PID && decide ((List.map AV.str (srtS (sL es))).length ≤ (1000000 : Nat)) then bif slb (0 : Int) (if (1000 : Int) < (↑(List.map AV.str (compact (sL (List.map AV.str (srtS (sL es)))))).length : Int) then (1000 : Int) else (↑(List.map AV.str (compact (sL (List.map AV.str (srtS (sL es)))))).length : Int)) (List.map AV.str (compact (sL (List.map AV.str (srtS (sL es)))))).length then bif decide ((List.take ((if (1000 : Int) < (↑(List.map AV.str (compact (sL (List.map AV.str (srtS (sL es)))))).length : Int) then (1000 : Int) else (↑(List.map AV.str (compact (sL (List.map AV.str (srtS (sL es)))))).length : Int)).toNat - Int.toNat (0 : Int)) (List.drop (0 : Nat) (List.map AV.str (compact (sL (List.map AV.str (srtS (sL es)))))))).length ≤ (1000000 : Nat)) then k (AV.slv Sh.str (List.take ((if (1000 : Int) < (↑(List.map AV.str (compact (sL (List.map AV.str (srtS (sL es)))))).length : Int) then (1000 : Int) else (↑(List.map AV.str (compact (sL (List.map AV.str (srtS (sL es)))))).length : Int)).toNat - Int.toNat (0 : Int)) (List.drop (0 : Nat) (List.map AV.str (compact (sL (List.map AV.str (srtS (sL es))))))))) [none] [] else none else none else none else none) (by kernel_rfl) ?_
    rw [← hk]
    have hsl : ((srtS (sL es)).map AV.str).length ≤ 1000000 := by
      have : (srtS (sL es)).length = (sL es).length := List.length_mergeSort _
      rw [List.length_map, this]
      unfold sL
      rw [List.length_map]
      exact hn
    rw [sL_strs]
    unfold fstL
    have hcl := Lib.compact_length_le (srtS (sL es))
    rw [List.length_map] at hsl
    generalize Lib.compact (srtS (sL es)) = C at hcl ⊢
    have ht : ∀ m : Int, (m = 1000 ∧ 1000 < C.length) ∨ (m = C.length ∧ C.length ≤ 1000) → List.take (m.toNat - (0 : Int).toNat) (List.drop 0 (C.map AV.str)) = (C.take 1000).map AV.str := fun m hm => by
      rw [List.drop_zero, List.map_take]
      rcases hm with ⟨rfl, _⟩ | ⟨rfl, h1⟩
      · rfl
      · rw [show ((C.length : Nat) : Int).toNat - (0 : Int).toNat = C.length from by omega, List.take_of_length_le (by rw [List.length_map]; exact Nat.le_refl _), List.take_of_length_le (by rw [List.length_map]; exact h1)]
    obtain ⟨m, hm, hm2⟩ : ∃ m : Int, m = (if 1000 < ((C.map AV.str).length : Int) then 1000 else ((C.map AV.str).length : Int)) ∧ ((m = 1000 ∧ 1000 < C.length) ∨ (m = C.length ∧ C.length ≤ 1000)) := by
      refine ⟨_, rfl, ?_⟩
      rw [List.length_map]
      by_cases h1 : 1000 < (C.length : Int)
      · rw [if_pos h1]; exact .inl ⟨rfl, by omega⟩
      · rw [if_neg h1]; exact .inr ⟨rfl, by omega⟩
    rw [← hm, ht m hm2]
    refine Eq.trans (cond_t (and_t rfl (decide_eq_true hn))) (Eq.trans (cond_t (and_t rfl (decide_eq_true (by rw [List.length_map]; exact hsl)))) (Eq.trans (cond_t (slb_true (by omega) (by omega) (by rw [List.length_map]; omega))) (Eq.trans (cond_t (decide_eq_true (by rw [List.length_map, List.length_take]; omega))) rfl)))
  · cases h
/-! the tokens one by one -/
noncomputable def GY : Env := { pure := [] }
theorem gY : GOK Tryd.prog GY := GOK.empty
def FY : List AV → List Row → Tr XOut
  | [.own p, .str t], [.box false [.tup [.int .i64 key], .slz .str, .fn 28 [.ptr 1125899906842625 0, .ptr 1125899906842626 0], .ptr 1125899906842627 0, .undef, .slz .str, .undef, .fn 28 [.ptr 1125899906842625 0, .ptr 1125899906842626 0], .undef, .undef, .undef, .undef, .undef, .undef], .box false [.str text], .box false [.fn 25 []], .box false [.own 1125899906842628], .arr false .str e out none] =>
    .gd (p == PID && (key == 0 && decide (out.length ≤ 100000 ∧ e = 9))) (.leaf (.bool true, [some (.box false [.tup [.int .i64 key], .slz .str, .fn 28 [.ptr 1125899906842625 0, .ptr 1125899906842626 0], .ptr 1125899906842627 0, .undef, .slz .str, .undef, .fn 28 [.ptr 1125899906842625 0, .ptr 1125899906842626 0], .undef, .undef, .undef, .undef, .undef, .undef]), some (.box false [.str text]), some (.box false [.fn 25 []]), some (.box false [.own RID]), none], [.arr false .str 9 (out ++ [.str t]) none]))
  | _, _ => .no
theorem yokY : YOK Tryd.prog 0 (ofX FY) ∧ XNat (ofX FY) := by
  refine ⟨yok_of gY (drawOK gY (by kernel_rfl)) rfl (q := loopCode 0) rfl (KOK.nil (by kernel_rfl)) (KOK.nil (by kernel_rfl)) (K := []) fun ρ avs rows k r h => ?_, xnat_ofX FY⟩
  have h' : (FY avs rows).run (fun q => k q.1 q.2.1 q.2.2) = some r := h
  unfold FY at h'
  split at h'
  · rename_i p t key text e out
    obtain ⟨hc, hk⟩ := gd_some h'
    simp only [Bool.and_eq_true] at hc
    obtain ⟨hp, hkey, hb0⟩ := hc
    obtain rfl : p = PID := by simpa using hp
    obtain rfl : key = 0 := by simpa using hkey
    obtain ⟨hb, rfl⟩ := of_decide_eq_true hb0
    clear hb0
    refine Eq.trans (b := bif roomB (out.length + [AV.str t].length) (Tryd.prog.bytesOf (9 : Nat)) then k (AV.bool true) [some (Row.box false [AV.tup [AV.int IntKind.i64 (0 : Int)], AV.slz Sh.str, AV.fn (28 : Nat) [AV.ptr (1125899906842625 : Nat) (0 : Nat), AV.ptr (1125899906842626 : Nat) (0 : Nat)], AV.ptr (1125899906842627 : Nat) (0 : Nat), AV.undef, AV.slz Sh.str, AV.undef, AV.fn (28 : Nat) [AV.ptr (1125899906842625 : Nat) (0 : Nat), AV.ptr (1125899906842626 : Nat) (0 : Nat)], AV.undef, AV.undef, AV.undef, AV.undef, AV.undef, AV.undef]), some (Row.box false [AV.str text]), some (Row.box false [AV.fn (25 : Nat) []]), some (Row.box false [AV.own (2251799813685248 : Nat)]), none] [Row.arr false Sh.str (9 : Nat) (out ++ [AV.str t]) none] else none) (by kernel_rfl) ?_
    rw [← hk]
    exact cond_t (roomB_small (by show _ + 1 ≤ _; omega) by9)
  · cases h'
/-- A token's length in runes. -/
def lenW (s : List UInt8) : Bool := inR (Lib.runeCount ⟨s.toArray⟩) 3 20
def tkF (fs : List (List UInt8)) : List (List UInt8) := (fs.filter lenW).map (mapD toLowerU)
theorem tkF_cons (x : List UInt8) (r : List (List UInt8)) : tkF (x :: r) = bif lenW x then mapD toLowerU x :: tkF r else tkF r := by
  unfold tkF
  rw [List.filter_cons]
  cases lenW x <;> rfl
def shT (e : AV) : Bool := decide ((sE e).length ≤ 1000000)
noncomputable def G28 : Env := { pure := [(29, ofT F29), (30, ofT F30), (31, ofT F31)], yld := some (0, 1, ofX FY) }
theorem g28 : GOK Tryd.prog G28 := GOK.yields (GOK.also (GOK.also (GOK.also g0 ok31) ok30) ok29) (by kernel_rfl) yokY
noncomputable def b28 : Code := ((Tryd.f28.body.map loopsOf).getD []).headD .skip
def L28 : List AV → List (Option Row) → Tr LOut
  | [.own 1125899906842624, .ptr 1125899906842625 0, .ptr 1125899906842626 0, .slv .str fs, .int .i64 n, .int .i64 i], [some (.box false [.tup [.int .i64 0], .slz .str, .fn 28 [.ptr 1125899906842625 0, .ptr 1125899906842626 0], .ptr 1125899906842627 0, .undef, .slz .str, .undef, .fn 28 [.ptr 1125899906842625 0, .ptr 1125899906842626 0], .undef, .undef, .undef, .undef, .undef, .undef]), some (.box false [.str text]), some (.box false [.fn 25 []]), some (.box false [.own 901]), some (.arr false .str e out none)] =>
    .gd (cnt n i fs.length && (fs.all shT && decide (out.length + (fs.length - i.toNat) ≤ 100000 ∧ e = 9))) (.leaf (.exit 0, [.own 1125899906842624, .ptr 1125899906842625 0, .ptr 1125899906842626 0, .slv .str fs, .int .i64 n, .int .i64 fs.length], [some (.box false [.tup [.int .i64 0], .slz .str, .fn 28 [.ptr 1125899906842625 0, .ptr 1125899906842626 0], .ptr 1125899906842627 0, .undef, .slz .str, .undef, .fn 28 [.ptr 1125899906842625 0, .ptr 1125899906842626 0], .undef, .undef, .undef, .undef, .undef, .undef]), some (.box false [.str text]), some (.box false [.fn 25 []]), some (.box false [.own 901]), some (.arr false .str e (out ++ (tkF (sL (fs.drop i.toNat))).map AV.str) none)]))
  | _, _ => .no
def l28 : Ev.Loop := ⟨{ len := 31, slots := [0, 1, 2, 9, 10, 11], rows := [1125899906842624, 1125899906842625, 1125899906842626, 1125899906842627, 901], cells := [(1125899906842627, 0, 901, 9)] }, ofL L28⟩
def μ28 (vs : List AV) (_ : List (Option Row)) : Nat := match vs with
  | [_, _, _, _, .int _ n, .int _ i] => (n - i).toNat
  | _ => 0
theorem loop28 : LoopOK Tryd.prog G28 [(1, l28)] b28 l28 := by
  refine loopT g28.natOK rfl (KOK.nil (by kernel_rfl)) μ28 (fun ρ vs rs k r h => ?_)
  unfold L28 at h
  split at h
  · rename_i fs n i text e out
    obtain ⟨hc, hk⟩ := gd_some h
    simp only [Bool.and_eq_true] at hc
    obtain ⟨hc, hall, hb⟩ := hc
    obtain ⟨hb, rfl⟩ := of_decide_eq_true hb
    refine Eq.trans (b := bif decide (i < n) then bif inb i fs.length then bif decide ((sE (fs.getD i.toNat AV.unk)).length < (9223372036854775807 : Nat)) then bif decide ((↑(runeCount { data := (sE (fs.getD i.toNat AV.unk)).toArray }) : Int) ≥ (3 : Int)) then bif decide ((↑(runeCount { data := (sE (fs.getD i.toNat AV.unk)).toArray }) : Int) ≤ (20 : Int)) then bif decide ((sE (fs.getD i.toNat AV.unk)).length < (35184372088832 : Nat)) then bif (fun x => PID + x) (0 : Nat) == PID && ((0 : Int) == (0 : Int) && decide (out.length ≤ (100000 : Nat) ∧ (9 : TypeId) = (9 : TypeId))) then bif decide ((n - IntKind.i64.wrap (i + (1 : Int))).toNat < (n - i).toNat) then bif cnt n (IntKind.i64.wrap (i + (1 : Int))) fs.length && (fs.all shT && decide ((out ++ [AV.str (mapD toLowerU (sE (fs.getD i.toNat AV.unk)))]).length + (fs.length - (IntKind.i64.wrap (i + (1 : Int))).toNat) ≤ (100000 : Nat) ∧ (9 : TypeId) = (9 : TypeId))) then k (Ex.exit (0 : Nat)) [AV.own (1125899906842624 : Nat), AV.ptr (1125899906842625 : Nat) (0 : Nat), AV.ptr (1125899906842626 : Nat) (0 : Nat), AV.slv Sh.str fs, AV.int IntKind.i64 n, AV.int IntKind.i64 (↑fs.length : Int)] [some (Row.box false [AV.tup [AV.int IntKind.i64 (0 : Int)], AV.slz Sh.str, AV.fn (28 : Nat) [AV.ptr (1125899906842625 : Nat) (0 : Nat), AV.ptr (1125899906842626 : Nat) (0 : Nat)], AV.ptr (1125899906842627 : Nat) (0 : Nat), AV.undef, AV.slz Sh.str, AV.undef, AV.fn (28 : Nat) [AV.ptr (1125899906842625 : Nat) (0 : Nat), AV.ptr (1125899906842626 : Nat) (0 : Nat)], AV.undef, AV.undef, AV.undef, AV.undef, AV.undef, AV.undef]), some (Row.box false [AV.str text]), some (Row.box false [AV.fn (25 : Nat) []]), some (Row.box false [AV.own (901 : Nat)]), some (Row.arr false Sh.str (9 : Nat) (out ++ [AV.str (mapD toLowerU (sE (fs.getD i.toNat AV.unk)))] ++ List.map AV.str (tkF (sL (List.drop (IntKind.i64.wrap (i + (1 : Int))).toNat fs)))) none)] else none else none else none else none else bif decide ((n - IntKind.i64.wrap (i + (1 : Int))).toNat < (n - i).toNat) then bif cnt n (IntKind.i64.wrap (i + (1 : Int))) fs.length && (fs.all shT && decide (out.length + (fs.length - (IntKind.i64.wrap (i + (1 : Int))).toNat) ≤ (100000 : Nat) ∧ (9 : TypeId) = (9 : TypeId))) then k (Ex.exit (0 : Nat)) [AV.own (1125899906842624 : Nat), AV.ptr (1125899906842625 : Nat) (0 : Nat), AV.ptr (1125899906842626 : Nat) (0 : Nat), AV.slv Sh.str fs, AV.int IntKind.i64 n, AV.int IntKind.i64 (↑fs.length : Int)] [some (Row.box false [AV.tup [AV.int IntKind.i64 (0 : Int)], AV.slz Sh.str, AV.fn (28 : Nat) [AV.ptr (1125899906842625 : Nat) (0 : Nat), AV.ptr (1125899906842626 : Nat) (0 : Nat)], AV.ptr (1125899906842627 : Nat) (0 : Nat), AV.undef, AV.slz Sh.str, AV.undef, AV.fn (28 : Nat) [AV.ptr (1125899906842625 : Nat) (0 : Nat), AV.ptr (1125899906842626 : Nat) (0 : Nat)], AV.undef, AV.undef, AV.undef, AV.undef, AV.undef, AV.undef]), some (Row.box false [AV.str text]), some (Row.box false [AV.fn (25 : Nat) []]), some (Row.box false [AV.own (901 : Nat)]), some (Row.arr false Sh.str (9 : Nat) (out ++ List.map AV.str (tkF (sL (List.drop (IntKind.i64.wrap (i + (1 : Int))).toNat fs)))) none)] else none else none else bif decide ((n - IntKind.i64.wrap (i + (1 : Int))).toNat < (n - i).toNat) then bif cnt n (IntKind.i64.wrap (i + (1 : Int))) fs.length && (fs.all shT && decide (out.length + (fs.length - (IntKind.i64.wrap (i + (1 : Int))).toNat) ≤ (100000 : Nat) ∧ (9 : TypeId) = (9 : TypeId))) then k (Ex.exit (0 : Nat)) [AV.own (1125899906842624 : Nat), AV.ptr (1125899906842625 : Nat) (0 : Nat), AV.ptr (1125899906842626 : Nat) (0 : Nat), AV.slv Sh.str fs, AV.int IntKind.i64 n, AV.int IntKind.i64 (↑fs.length : Int)] [some (Row.box false [AV.tup [AV.int IntKind.i64 (0 : Int)], AV.slz Sh.str, AV.fn (28 : Nat) [AV.ptr (1125899906842625 : Nat) (0 : Nat), AV.ptr (1125899906842626 : Nat) (0 : Nat)], AV.ptr (1125899906842627 : Nat) (0 : Nat), AV.undef, AV.slz Sh.str, AV.undef, AV.fn (28 : Nat) [AV.ptr (1125899906842625 : Nat) (0 : Nat), AV.ptr (1125899906842626 : Nat) (0 : Nat)], AV.undef, AV.undef, AV.undef, AV.undef, AV.undef, AV.undef]), some (Row.box false [AV.str text]), some (Row.box false [AV.fn (25 : Nat) []]), some (Row.box false [AV.own (901 : Nat)]), some (Row.arr false Sh.str (9 : Nat) (out ++ List.map AV.str (tkF (sL (List.drop (IntKind.i64.wrap (i + (1 : Int))).toNat fs)))) none)] else none else none else none else none else k (Ex.exit (0 : Nat)) [AV.own (1125899906842624 : Nat), AV.ptr (1125899906842625 : Nat) (0 : Nat), AV.ptr (1125899906842626 : Nat) (0 : Nat), AV.slv Sh.str fs, AV.int IntKind.i64 n, AV.int IntKind.i64 i] [some (Row.box false [AV.tup [AV.int IntKind.i64 (0 : Int)], AV.slz Sh.str, AV.fn (28 : Nat) [AV.ptr (1125899906842625 : Nat) (0 : Nat), AV.ptr (1125899906842626 : Nat) (0 : Nat)], AV.ptr (1125899906842627 : Nat) (0 : Nat), AV.undef, AV.slz Sh.str, AV.undef, AV.fn (28 : Nat) [AV.ptr (1125899906842625 : Nat) (0 : Nat), AV.ptr (1125899906842626 : Nat) (0 : Nat)], AV.undef, AV.undef, AV.undef, AV.undef, AV.undef, AV.undef]), some (Row.box false [AV.str text]), some (Row.box false [AV.fn (25 : Nat) []]), some (Row.box false [AV.own (901 : Nat)]), some (Row.arr false Sh.str (9 : Nat) out none)]) (by kernel_rfl) ?_
    rw [← hk]
    obtain ⟨rfl, hs, j, rfl, hj⟩ := cnt_spec hc
    rw [Int.toNat_natCast] at hb
    simp only [Int.toNat_natCast]
    by_cases hlt : j < fs.length
    · obtain ⟨e1, e2, e3, e4, e5⟩ := cnt_facts hlt hs
      have hx : (sE (fs.getD j .unk)).length ≤ 1000000 := of_decide_eq_true (all_getD (P := shT) hall hlt)
      have hsl : sL (fs.drop j) = sE (fs.getD j .unk) :: sL (fs.drop (j + 1)) := by unfold sL; rw [drop_getD hlt]; rfl
      rw [hsl, tkF_cons, e3]
      simp only [Int.toNat_natCast]
      have g1 : ∀ x : AV, decide ((out ++ [x]).length + (fs.length - (j + 1)) ≤ 100000 ∧ (9 : TypeId) = 9) = true := fun x => decide_eq_true ⟨by rw [List.length_append, List.length_singleton]; omega, rfl⟩
      have g0' : decide (out.length + (fs.length - (j + 1)) ≤ 100000 ∧ (9 : TypeId) = 9) = true := decide_eq_true ⟨by omega, rfl⟩
      have hlw : lenW (sE (fs.getD j .unk)) = (decide (3 ≤ ((Lib.runeCount ⟨(sE (fs.getD j .unk)).toArray⟩ : Nat) : Int)) && decide (((Lib.runeCount ⟨(sE (fs.getD j .unk)).toArray⟩ : Nat) : Int) ≤ 20)) := rfl
      rw [hlw]
      refine Eq.trans (cond_t e1) (Eq.trans (cond_t e2) (Eq.trans (cond_t (decide_eq_true (by omega))) ?_))
      by_cases h3 : ((Lib.runeCount ⟨(sE (fs.getD j .unk)).toArray⟩ : Nat) : Int) ≥ 3
      · rw [decide_eq_true h3]
        by_cases h20 : ((Lib.runeCount ⟨(sE (fs.getD j .unk)).toArray⟩ : Nat) : Int) ≤ 20
        · rw [decide_eq_true h20]
          refine Eq.trans (cond_t rfl) (Eq.trans (cond_t rfl) (Eq.trans (cond_t (decide_eq_true (by omega))) (Eq.trans (cond_t (and_t rfl (and_t rfl (decide_eq_true ⟨by omega, by first | trivial | rfl⟩)))) (Eq.trans (cond_t e5) (Eq.trans (cond_t (and_t e4 (and_t hall (decide_eq_true ⟨by rw [List.length_append, List.length_singleton]; omega, by first | trivial | rfl⟩)))) ?_)))))
          simp only [Bool.and_self, cond_true, List.map_cons, List.append_assoc]
          rfl
        · rw [decide_eq_false h20]
          exact Eq.trans (cond_t rfl) (Eq.trans (cond_f rfl) (Eq.trans (cond_t e5) (Eq.trans (cond_t (and_t e4 (and_t hall (decide_eq_true ⟨by omega, by first | trivial | rfl⟩)))) rfl)))
      · rw [decide_eq_false h3]
        exact Eq.trans (cond_f rfl) (Eq.trans (cond_t e5) (Eq.trans (cond_t (and_t e4 (and_t hall (decide_eq_true ⟨by omega, by first | trivial | rfl⟩)))) rfl))
    · obtain rfl : j = fs.length := by omega
      rw [decide_eq_false (by omega), List.drop_length]
      show k _ _ [_, _, _, _, some (.arr false .str 9 out none)] = k _ _ [_, _, _, _, some (.arr false .str 9 (out ++ []) none)]
      rw [List.append_nil]
  · cases h
def F28x : List AV → List Row → Tr XOut
  | [.own 1125899906842624, .ptr 1125899906842625 0, .ptr 1125899906842626 0], [.box false [.tup [.int .i64 0], .slz .str, .fn 28 [.ptr 1125899906842625 0, .ptr 1125899906842626 0], .ptr 1125899906842627 0, .undef, .slz .str, .undef, .fn 28 [.ptr 1125899906842625 0, .ptr 1125899906842626 0], .undef, .undef, .undef, .undef, .undef, .undef], .box false [.str text], .box false [.fn 25 []], .box false [.slz .str]] =>
    .gd (decide (text.length ≤ 50000) && (decide ((fldW text).length ≤ 50000) && ((fldW text).map AV.str).all shT)) (.leaf (.tup [], [some (.box false [.tup [.int .i64 0], .slz .str, .fn 28 [.ptr 1125899906842625 0, .ptr 1125899906842626 0], .ptr 1125899906842627 0, .undef, .slz .str, .undef, .fn 28 [.ptr 1125899906842625 0, .ptr 1125899906842626 0], .undef, .undef, .undef, .undef, .undef, .undef]), some (.box false [.str text]), some (.box false [.fn 25 []]), some (.box false [.own RID])], [.arr false .str 9 ((tkF (fldW text)).map AV.str) none]))
  | _, _ => .no
theorem ok28x : XOK Tryd.prog 28 (ofX F28x) ∧ XNat (ofX F28x) := by
  refine ⟨xsum1 (K := [(1, l28)]) (H := []) (b := b28) (l := l28) g28 Tryd.func28 (by kernel_rfl) (by kernel_rfl) loop28 fun ρ avs rows k r h => ?_, xnat_ofX _⟩
  change (F28x avs rows).run _ = some r at h
  unfold F28x at h
  split at h
  · rename_i text
    obtain ⟨hc, hk⟩ := gd_some h
    simp only [Bool.and_eq_true] at hc
    obtain ⟨hc, hl, hall⟩ := hc
    refine ⟨by simp, fun rows' hsp => ?_⟩
    obtain rfl : rows' = [.box false [.tup [.int .i64 0], .slz .str, .fn 28 [.ptr 1125899906842625 0, .ptr 1125899906842626 0], .ptr 1125899906842627 0, .undef, .slz .str, .undef, .fn 28 [.ptr 1125899906842625 0, .ptr 1125899906842626 0], .undef, .undef, .undef, .undef, .undef, .undef], .box false [.str text], .box false [.fn 25 []], .box false [.slz .str]] := by
      match rows', hsp with
      | [r1, r2, r3, r4], ⟨h1, h2, h3, h4, _⟩ => rw [h1, h2, h3, h4]
    refine Eq.trans (b := bif decide (text.length ≤ (4294967296 : Nat)) then bif cnt (↑(List.map AV.str (fldW text)).length : Int) (0 : Int) (List.map AV.str (fldW text)).length && ((List.map AV.str (fldW text)).all shT && decide (([] : List AV).length + ((List.map AV.str (fldW text)).length - Int.toNat (0 : Int)) ≤ (100000 : Nat) ∧ ((1125899906842627 : Nat), (0 : Nat), (901 : Nat), (9 : TypeId)).snd.snd.snd = (9 : TypeId))) then k (AV.tup []) [some (Row.box false [AV.tup [AV.int IntKind.i64 (0 : Int)], AV.slz Sh.str, AV.fn (28 : Nat) [AV.ptr (1125899906842625 : Nat) (0 : Nat), AV.ptr (1125899906842626 : Nat) (0 : Nat)], AV.ptr (1125899906842627 : Nat) (0 : Nat), AV.undef, AV.slz Sh.str, AV.undef, AV.fn (28 : Nat) [AV.ptr (1125899906842625 : Nat) (0 : Nat), AV.ptr (1125899906842626 : Nat) (0 : Nat)], AV.undef, AV.undef, AV.undef, AV.undef, AV.undef, AV.undef]), some (Row.box false [AV.str text]), some (Row.box false [AV.fn (25 : Nat) []]), some (Row.box false [AV.own (2251799813685248 : Nat)])] [Row.arr false Sh.str (9 : Nat) ([] ++ List.map AV.str (tkF (sL (List.drop (0 : Nat) (List.map AV.str (fldW text)))))) none] else none else none) (by kernel_rfl) ?_
    rw [← hk]
    have hcl := of_decide_eq_true hc
    have hll := of_decide_eq_true hl
    refine Eq.trans (cond_t (decide_eq_true (by omega))) (Eq.trans (cond_t (and_t (cnt_zero (small_t (by rw [List.length_map]; omega))) (and_t hall (decide_eq_true ⟨by rw [List.length_map]; show 0 + (_ - 0) ≤ _; omega, by first | trivial | rfl⟩)))) ?_)
    have hd : sL (List.drop 0 ((fldW text).map AV.str)) = fldW text := sL_strs _
    rw [hd]
    rfl
  · cases h
/-! all tokens -/
def txB (text : List UInt8) : Bool := decide (text.length ≤ 50000) && (decide ((fldW text).length ≤ 50000) && ((fldW text).map AV.str).all shT)
noncomputable def G24 : Env := { pure := [], opens := [(28, ofX F28x)], rng := some (0, 5000) }
theorem g24 : GOK Tryd.prog G24 := GOK.flags (GOK.alsoX g0 ok28x)
theorem rng24 : (Tryd.f24.body.map rngsOf) = some [loopCode 0] := by kernel_rfl
def F24x : List AV → List Row → Tr XOut
  | [.slz .str, .fn 28 [.ptr 1125899906842624 0, .ptr 1125899906842625 0]], [.box false [.str text], .box false [.fn 25 []]] =>
    .gd (txB text) (.leaf (.own RID, [some (.box false [.str text]), some (.box false [.fn 25 []])], [.arr false .str 9 ((tkF (fldW text)).map AV.str) none]))
  | _, _ => .no
theorem ok24x : XOK Tryd.prog 24 (ofX F24x) ∧ XNat (ofX F24x) := by
  refine ⟨xok_ofR g24 (drawOK g24 (by kernel_rfl)) Tryd.func24 (fun ρ avs rows k r h => ?_) (fun c hc key site he => ⟨rfl, fun q hq => ?_⟩), xnat_ofX _⟩
  · change (F24x avs rows).run _ = some r at h
    unfold F24x at h
    split at h
    · rename_i text
      obtain ⟨hc, hk⟩ := gd_some h
      refine ⟨by simp, fun rows' hsp => ⟨[], [], fun c hc => KOK.nil (by
        have h1 : Tryd.f24.body.map loopsOf = some [] := by kernel_rfl
        rw [hc] at h1
        simpa using h1), ?_⟩⟩
      obtain rfl : rows' = [.box false [.str text], .box false [.fn 25 []]] := by
        match rows', hsp with
        | [r1, r2], ⟨h1, h2, _⟩ => rw [h1, h2]
      refine Eq.trans (b := bif decide (text.length ≤ (50000 : Nat)) && (decide ((fldW text).length ≤ (50000 : Nat)) && (List.map AV.str (fldW text)).all shT) then k (AV.own (2251799813685248 : Nat)) [some (Row.box false [AV.str text]), some (Row.box false [AV.fn (25 : Nat) []])] [Row.arr false Sh.str (9 : Nat) (List.map AV.str (tkF (fldW text))) none] else none) (by kernel_rfl) ?_
      rw [← hk]
      exact cond_t hc
    · cases h
  · have h1 := rng24
    rw [hc] at h1
    simp only [Option.map_some, Option.some.injEq] at h1
    rw [h1] at hq
    simpa [loopCode] using hq
noncomputable def G15 : Env := { pure := [], opens := [(24, ofX F24x)] }
theorem g15 : GOK Tryd.prog G15 := GOK.alsoX g0 ok24x
def F15x : List AV → List Row → Tr XOut
  | [.fn 28 [.ptr 1125899906842624 0, .ptr 1125899906842625 0]], [.box false [.str text], .box false [.fn 25 []]] =>
    .gd (txB text) (.leaf (.own RID, [some (.box false [.str text]), some (.box false [.fn 25 []])], [.arr false .str 9 ((tkF (fldW text)).map AV.str) none]))
  | _, _ => .no
theorem ok15x : XOK Tryd.prog 15 (ofX F15x) ∧ XNat (ofX F15x) := by
  refine ⟨xsum0 (H := []) g15 Tryd.func15 (by kernel_rfl) fun ρ avs rows k r h => ?_, xnat_ofX _⟩
  change (F15x avs rows).run _ = some r at h
  unfold F15x at h
  split at h
  · rename_i text
    obtain ⟨hc, hk⟩ := gd_some h
    refine ⟨by simp, fun rows' hsp => ?_⟩
    obtain rfl : rows' = [.box false [.str text], .box false [.fn 25 []]] := by
      match rows', hsp with
      | [r1, r2], ⟨h1, h2, _⟩ => rw [h1, h2]
    refine Eq.trans (b := bif txB text then k (AV.own (2251799813685248 : Nat)) [some (Row.box false [AV.str text]), some (Row.box false [AV.fn (25 : Nat) []])] [Row.arr false Sh.str (9 : Nat) (List.map AV.str (tkF (fldW text))) none] else none) (by kernel_rfl) ?_
    rw [← hk]
    exact cond_t hc
  · cases h
/-! each: the iterator -/
theorem heap_new (w : World) (o : Obj) : (w.alloc o).heap[w.heap.size]? = some o := heap_alloc_new w o
theorem heap_old (w : World) (o : Obj) {k : Nat} (h : k < w.heap.size) : (w.alloc o).heap[k]? = w.heap[k]? := heap_alloc_old w o h
set_option maxHeartbeats 1000000 in
set_option maxRecDepth 1000000 in
theorem run16 (s : ByteArray) (w : World) :
    Calls Tryd.prog 16 #[.string s] w fun e w' => e = .returned (.func (.func 28) #[] #[.pointer (some ⟨w.heap.size, 0, none⟩), .pointer (some ⟨w.heap.size + 1, 0, none⟩)]) ∧
      w' = (w.alloc (.cells #[.string s] 9)).alloc (.cells #[.func (.func 25) #[] #[]] 40) := by
  go_enter Tryd.func16, Tryd.ntmps16
  go_wp2
  go_ret
  exact ⟨rfl, rfl⟩
def F16x : List AV → List Row → Tr XOut
  | [.str s], [] => .leaf (.fn 28 [.ptr RID 0, .ptr (RID + 1) 0], [], [.box false [.str s], .box false [.fn 25 []]])
  | _, _ => .no
theorem upd2 {α : Type} {f : Nat → Option α} {i a b : Nat} {x y : Option α} {q : α} (h : upd (upd f a x) b y i = some q) : (i = b ∧ y = some q) ∨ (i ≠ b ∧ i = a ∧ x = some q) ∨ (i ≠ b ∧ i ≠ a ∧ f i = some q) := by
  unfold upd at h
  split at h
  · exact .inl ⟨by assumption, h⟩
  · split at h
    · exact .inr (.inl ⟨by assumption, by assumption, h⟩)
    · exact .inr (.inr ⟨by assumption, by assumption, h⟩)
theorem ok16x : XOK Tryd.prog 16 (ofX F16x) ∧ XNat (ofX F16x) := by
  refine ⟨fun ρ w S B β og avs rows args k r hH hSB hdom hv h => ?_, xnat_ofX F16x⟩
  have h' : (F16x avs rows).run (fun q => k q.1 q.2.1 q.2.2) = some r := h
  unfold F16x at h'
  split at h'
  · rename_i s
    have hk := h'
    obtain ⟨v, vs, rfl, h1, hv⟩ := hv.inv
    obtain rfl := hv.inv_nil
    rw [h1.str_inv]
    refine .inl ⟨by kernel_rfl, (run16 ⟨s.toArray⟩ w).mono fun e1 w' hq => ?_⟩
    obtain ⟨he, hw⟩ := hq
    have hsz : w'.heap.size = w.heap.size + 2 := by rw [hw]; simp
    have hold : ∀ k, k < w.heap.size → w'.heap[k]? = w.heap[k]? := fun k hk => by
      rw [hw, heap_old _ _ (by simp; omega), heap_old _ _ hk]
    have n0 : w'.heap[w.heap.size]? = some (.cells #[.string ⟨s.toArray⟩] 9) := by
      rw [hw, heap_old _ _ (by simp), heap_new]
    have n1 : w'.heap[w.heap.size + 1]? = some (.cells #[.func (.func 25) #[] #[]] 40) := by
      rw [hw]
      have := heap_new (w.alloc (.cells #[.string ⟨s.toArray⟩] 9)) (.cells #[.func (.func 25) #[] #[]] 40)
      simpa using this
    have hbel : Below w.heap.size w w' := ⟨by rw [hw]; rfl, by rw [hw]; rfl, by rw [hw]; rfl, by omega, hold⟩
    have hnS : ∀ j, ¬ S (w.heap.size + j) := fun j h => by have := hH.Slt _ h; omega
    have hnB : ∀ j, ¬ B (w.heap.size + j) := fun j h => by have := hH.Ble _ h; omega
    let P := fun j : Nat => Value.pointer (some ⟨w.heap.size + j, 0, none⟩)
    let β' : Bet := upd (upd β RID (some (P 0, 1))) (RID + 1) (some (P 1, 1))
    let og' : Nat → Option Nat := upd (upd og RID (some w.heap.size)) (RID + 1) (some (w.heap.size + 1))
    have b1 : β' (RID + 1) = some (P 1, 1) := upd_same _ _ _
    have b0 : β' RID = some (P 0, 1) := by show upd _ _ _ _ = _; rw [upd_other _ _ _ _ (by simp), upd_same]
    have o1 : og' (RID + 1) = some (w.heap.size + 1) := upd_same _ _ _
    have o0 : og' RID = some w.heap.size := by show upd _ _ _ _ = _; rw [upd_other _ _ _ _ (by simp), upd_same]
    refine ⟨_, _, _, _, S, β', og', he, hk, ?_⟩
    refine ⟨Kept.of_below hbel hH.Ble, fun _ h => h, fun b h => .inl h, .fn _ 28 _ [P 0, P 1] rfl fun j c u hc hu => ?_, fun j r hj => by simp at hj, fun j r hj => ?_, fun id id' g hg hg' => ?_, fun id g hg => ?_, fun id x hx => ?_, fun b hb => by have := hH.Slt b hb; omega, fun id x hid hx => ?_⟩
    · match j with
      | 0 => simp at hc hu; subst hc hu; exact .ptr _ _ _ _ _ b0
      | 1 => simp at hc hu; subst hc hu; exact .ptr _ _ _ _ _ b1
      | j + 2 => simp at hc
    · match j with
      | 0 =>
        simp only [List.getElem?_cons_zero, Option.some.injEq] at hj
        subst hj
        exact ⟨w.heap.size, [.string ⟨s.toArray⟩], P 0, o0, b0, .inl ⟨⟨9, n0⟩, rfl, fun u hu => by simp at hu; subst hu; rfl⟩, VRels.cons (.str _ _) VRels.nil, fun _ => hnS 0, (fun h => by cases h), hnB 0⟩
      | 1 =>
        simp only [List.getElem?_cons_succ, List.getElem?_cons_zero, Option.some.injEq] at hj
        subst hj
        exact ⟨w.heap.size + 1, [.func (.func 25) #[] #[]], P 1, o1, b1, .inl ⟨⟨40, n1⟩, rfl, fun u hu => by simp at hu; subst hu; rfl⟩, VRels.cons (.fn _ 25 [] [] rfl (fun j c u hc hu => by simp at hc)) VRels.nil, fun _ => hnS 1, (fun h => by cases h), hnB 1⟩
      | j + 2 => simp at hj
    · rcases upd2 hg with ⟨e1, h1⟩ | ⟨_, e1, h1⟩ | ⟨_, _, h1⟩ <;> rcases upd2 hg' with ⟨e2, h2⟩ | ⟨_, e2, h2⟩ | ⟨_, _, h2⟩
      all_goals first
        | (rw [e1, e2]; done)
        | (exfalso; simp only [Option.some.injEq] at h1 h2; omega)
        | (exfalso; have := hH.lt _ _ h2; simp only [Option.some.injEq] at h1; omega)
        | (exfalso; have := hH.lt _ _ h1; simp only [Option.some.injEq] at h2; omega)
        | exact hH.inj _ _ _ h1 h2
    · rcases upd2 hg with ⟨_, h1⟩ | ⟨_, _, h1⟩ | ⟨_, _, h1⟩
      · simp only [Option.some.injEq] at h1; omega
      · simp only [Option.some.injEq] at h1; omega
      · have := hH.lt _ _ h1; omega
    · rcases upd2 hx with ⟨_, h1⟩ | ⟨_, _, h1⟩ | ⟨_, _, h1⟩
      · cases h1; rfl
      · cases h1; rfl
      · exact hH.one _ _ h1
    · rcases upd2 hx with ⟨e1, _⟩ | ⟨_, e1, _⟩ | ⟨_, _, h1⟩
      · omega
      · omega
      · exact h1
  · cases h'
/-! Split -/
noncomputable def G6 : Env := { pure := [(13, evF Tryd.prog G0 [] Tryd.f13), (17, evF Tryd.prog G0 [] Tryd.f17)], opens := [(16, ofX F16x), (15, ofX F15x), (14, ofX F14x)] }
theorem g6 : GOK Tryd.prog G6 := GOK.alsoX (GOK.alsoX (GOK.alsoX (GOK.also (GOK.also g0 (inl g0 Tryd.func17 (by kernel_rfl))) (inl g0 Tryd.func13 (by kernel_rfl))) ok14x) ok15x) ok16x
def splL (s : List UInt8) : List (List UInt8) := bif decide ((s.length : Int) > 4000) then [] else fstL (tkF (fldW s))
def splC (s : List UInt8) : Int := bif decide ((s.length : Int) > 4000) then 1 else 0
def splI (s : List UInt8) : Int := bif decide ((s.length : Int) > 4000) then -1 else 0
def F6 : List AV → Tr AV
  | [.str s] => .gd (decide ((s.length : Int) > 4000) || (txB s && decide ((tkF (fldW s)).length ≤ 1000000))) (.leaf (.tup [.slv .str ((splL s).map AV.str), .agg [.int .i64 (splC s), .int .i64 (splI s)]]))
  | _ => .no
theorem ok6 : SumOK Tryd.prog 6 (ofT F6) ∧ SNat (ofT F6) := by
  refine fn0 g6 Tryd.func6 (by kernel_rfl) fun ρ avs k r h => ?_
  unfold F6 at h
  split at h
  · rename_i s
    obtain ⟨hc, hk⟩ := gd_some h
    have hc' : decide ((s.length : Int) > 4000) = true ∨ (txB s = true ∧ (tkF (fldW s)).length ≤ 1000000) := by
      rw [Bool.or_eq_true, Bool.and_eq_true, decide_eq_true_eq, decide_eq_true_eq] at hc
      rcases hc with h | ⟨h, h'⟩
      · exact .inl (decide_eq_true h)
      · exact .inr ⟨h, h'⟩
    refine Eq.trans (b := bif decide ((↑s.length : Int) > (4000 : Int)) then k (AV.tup [AV.slv Sh.str [], AV.agg [AV.int IntKind.i64 (1 : Int), AV.int IntKind.i64 (-1 : Int)]]) else bif txB s then bif (fun x => PID + x) (0 : Nat) == PID && decide ((List.map AV.str (tkF (fldW s))).length ≤ (1000000 : Nat)) then k (AV.tup [AV.slv Sh.str (List.map AV.str (fstL (sL (List.map AV.str (tkF (fldW s)))))), AV.agg [AV.int IntKind.i64 (0 : Int), AV.int IntKind.i64 (0 : Int)]]) else none else none) (by kernel_rfl) ?_
    rw [← hk]
    unfold splL splC splI
    rcases hc' with h1 | ⟨h1, h2⟩
    · rw [h1]; rfl
    · cases h3 : decide ((s.length : Int) > 4000)
      · refine Eq.trans (cond_f rfl) (Eq.trans (cond_t h1) (Eq.trans (cond_t (and_t rfl (decide_eq_true (by rw [List.length_map]; exact h2)))) ?_))
        rw [sL_strs]
        rfl
      · rfl
  · cases h
end Go.Proofs.YtghinideddfcpaaDoor

/-
  The document's tokens of a text: TokensIn.
-/
namespace Go.Proofs.YtghinideddfcpaaDoor
open Go.Ev Go.Lib

theorem encA_len (n : Int) : (encA n).length ≤ 4 := by
  unfold encA Utf8.encode
  dsimp only
  repeat' split
  all_goals simp
theorem decA_pos (s : List UInt8) (p : Nat) : 1 ≤ (decA s p).2 := Lib.width_pos _ _
theorem decA_wid (s : List UInt8) (p : Nat) : (decA s p).2 ≤ 4 := by
  unfold decA Utf8.decode
  dsimp only
  repeat' split
  all_goals simp
theorem decA_le (s : List UInt8) (p : Nat) : (decA s p).1 ≤ 1114111 := Lib.rune_le _ _
/-- One after the other, from a place on: the tokens, what is begun, its length, the place. -/
def tkG (pre s : List UInt8) : Nat → Nat → List UInt8 → Int → List (List UInt8) × List UInt8 × Int × Nat
  | 0, p, one, n => ([], one, n, p)
  | f + 1, p, one, n =>
    bif decide (p < s.length) then
      (bif ltU ((decA s p).1 : Nat) then tkG pre s f (p + (decA s p).2) (one ++ encA (toLowerU ((decA s p).1 : Nat))) (n + 1)
       else ((bif inR n 3 20 then [pre ++ one] else []) ++ (tkG pre s f (p + (decA s p).2) [] 0).1, (tkG pre s f (p + (decA s p).2) [] 0).2))
    else ([], one, n, p)
theorem tkG_fuel (pre s : List UInt8) : ∀ (f g p : Nat) (one : List UInt8) (n : Int), s.length - p ≤ f → s.length - p ≤ g → tkG pre s f p one n = tkG pre s g p one n
  | 0, 0, _, _, _, _, _ => rfl
  | 0, g + 1, p, one, n, h, _ => by
    unfold tkG
    rw [decide_eq_false (by omega)]; rfl
  | f + 1, 0, p, one, n, _, h => by
    unfold tkG
    rw [decide_eq_false (by omega)]; rfl
  | f + 1, g + 1, p, one, n, h, h' => by
    unfold tkG
    by_cases hp : p < s.length
    · have := decA_pos s p
      rw [decide_eq_true hp]
      rw [tkG_fuel pre s f g _ _ _ (by omega) (by omega), tkG_fuel pre s f g _ _ _ (by omega) (by omega)]
    · rw [decide_eq_false hp]; rfl
/-- The same with as much as is needed. -/
def tkH (pre s : List UInt8) (p : Nat) (one : List UInt8) (n : Int) : List (List UInt8) × List UInt8 × Int × Nat := tkG pre s (s.length - p) p one n
theorem tkH_step {pre s : List UInt8} {p : Nat} (hp : p < s.length) (one : List UInt8) (n : Int) : tkH pre s p one n = bif ltU ((decA s p).1 : Nat) then tkH pre s (p + (decA s p).2) (one ++ encA (toLowerU ((decA s p).1 : Nat))) (n + 1)
    else ((bif inR n 3 20 then [pre ++ one] else []) ++ (tkH pre s (p + (decA s p).2) [] 0).1, (tkH pre s (p + (decA s p).2) [] 0).2) := by
  have hd := decA_pos s p
  obtain ⟨m, hm⟩ : ∃ m, s.length - p = m + 1 := ⟨s.length - p - 1, by omega⟩
  unfold tkH
  rw [hm]
  conv => lhs; unfold tkG
  rw [decide_eq_true hp, cond_true, tkG_fuel pre s m (s.length - (p + (decA s p).2)) _ _ _ (by omega) (by omega), tkG_fuel pre s m (s.length - (p + (decA s p).2)) _ _ _ (by omega) (by omega)]
theorem tkH_end {pre s : List UInt8} {p : Nat} (hp : ¬ p < s.length) (one : List UInt8) (n : Int) : tkH pre s p one n = ([], one, n, p) := by
  unfold tkH
  rw [show s.length - p = 0 from by omega]
  rfl
noncomputable def G11 : Env := { pure := [(18, ofT F18), (19, ofT F19), (20, ofT F20)] }
theorem g11 : GOK Tryd.prog G11 := GOK.also (GOK.also (GOK.also g0 ok20) ok19) ok18
noncomputable def b11 : Code := ((Tryd.f11.body.map loopsOf).getD []).headD .skip
def L11 : List AV → List (Option Row) → Tr LOut
  | [.str tx, .str pre, .slz .str, .own 900, .str one, .int .i64 n, .eptr 258 0 0], [some (.box false [.tup [.str s, .int .i64 p]]), some (.arr false .str e out none)] =>
    .gd (decide (0 ≤ p ∧ p.toNat ≤ s.length + 3 ∧ s.length ≤ 100000 ∧ pre.length ≤ 1000 ∧ one.length ≤ 4 * p.toNat ∧ 0 ≤ n ∧ n ≤ p ∧ out.length ≤ p.toNat ∧ e = 9)) (.leaf (.exit 0, [.str tx, .str pre, .slz .str, .own 900, .str (tkH pre s p.toNat one n).2.1, .int .i64 (tkH pre s p.toNat one n).2.2.1, .eptr 258 0 0], [some (.box false [.tup [.str s, .int .i64 ((tkH pre s p.toNat one n).2.2.2 : Nat)]]), some (.arr false .str e (out ++ (tkH pre s p.toNat one n).1.map AV.str) none)]))
  | _, _ => .no
def l11 : Ev.Loop := ⟨{ len := 34, slots := [0, 1, 4, 5, 6, 7, 12], rows := [258, 900], homes := [(5, 900, 9)] }, ofL L11⟩
def μ11 (_ : List AV) (rs : List (Option Row)) : Nat := match rs with
  | some (.box _ [.tup [.str s, .int _ p]]) :: _ => ((s.length : Int) - p).toNat
  | _ => 0
theorem loop11 : LoopOK Tryd.prog G11 [(5, l11)] b11 l11 := by
  refine loopT g11.natOK rfl (KOK.nil (by kernel_rfl)) μ11 (fun ρ vs rs k r h => ?_)
  unfold L11 at h
  split at h
  · rename_i tx pre one n s p e out
    obtain ⟨hc, hk⟩ := gd_some h
    obtain ⟨h0, h1, h2, h3, h4, h5, h6, h7, rfl⟩ := of_decide_eq_true hc
    refine Eq.trans (b := bif decide (p < (↑s.length : Int)) then bif r32 (↑(decA s p.toNat).fst : Int) then bif ltU (↑(decA s p.toNat).fst : Int) then bif lenB (one.length + (encA (toLowerU (↑(decA s p.toNat).fst : Int))).length) then bif decide (((↑s.length : Int) - (p + (↑(decA s p.toNat).snd : Int))).toNat < ((↑s.length : Int) - p).toNat) then bif decide ((0 : Int) ≤ p + (↑(decA s p.toNat).snd : Int) ∧ (p + (↑(decA s p.toNat).snd : Int)).toNat ≤ s.length + (3 : Nat) ∧ s.length ≤ (100000 : Nat) ∧ pre.length ≤ (1000 : Nat) ∧ (one ++ encA (toLowerU (↑(decA s p.toNat).fst : Int))).length ≤ (4 : Nat) * (p + (↑(decA s p.toNat).snd : Int)).toNat ∧ (0 : Int) ≤ IntKind.i64.wrap (n + (1 : Int)) ∧ IntKind.i64.wrap (n + (1 : Int)) ≤ p + (↑(decA s p.toNat).snd : Int) ∧ out.length ≤ (p + (↑(decA s p.toNat).snd : Int)).toNat ∧ (9 : TypeId) = (9 : TypeId)) then k (Ex.exit (0 : Nat)) [AV.str tx, AV.str pre, AV.slz Sh.str, AV.own (900 : Nat), AV.str (tkH pre s (p + (↑(decA s p.toNat).snd : Int)).toNat (one ++ encA (toLowerU (↑(decA s p.toNat).fst : Int))) (IntKind.i64.wrap (n + (1 : Int)))).snd.fst, AV.int IntKind.i64 (tkH pre s (p + (↑(decA s p.toNat).snd : Int)).toNat (one ++ encA (toLowerU (↑(decA s p.toNat).fst : Int))) (IntKind.i64.wrap (n + (1 : Int)))).snd.snd.fst, AV.eptr (258 : Nat) (0 : Nat) (0 : Nat)] [some (Row.box false [AV.tup [AV.str s, AV.int IntKind.i64 (↑(tkH pre s (p + (↑(decA s p.toNat).snd : Int)).toNat (one ++ encA (toLowerU (↑(decA s p.toNat).fst : Int))) (IntKind.i64.wrap (n + (1 : Int)))).snd.snd.snd : Int)]]), some (Row.arr false Sh.str (9 : Nat) (out ++ List.map AV.str (tkH pre s (p + (↑(decA s p.toNat).snd : Int)).toNat (one ++ encA (toLowerU (↑(decA s p.toNat).fst : Int))) (IntKind.i64.wrap (n + (1 : Int)))).fst) none)] else none else none else none else bif inR n (3 : Int) (20 : Int) then bif lenB (pre.length + one.length) then bif roomB (out.length + [AV.str (pre ++ one)].length) (Tryd.prog.bytesOf (9 : Nat)) then bif decide (((↑s.length : Int) - (p + (↑(decA s p.toNat).snd : Int))).toNat < ((↑s.length : Int) - p).toNat) then bif decide ((0 : Int) ≤ p + (↑(decA s p.toNat).snd : Int) ∧ (p + (↑(decA s p.toNat).snd : Int)).toNat ≤ s.length + (3 : Nat) ∧ s.length ≤ (100000 : Nat) ∧ pre.length ≤ (1000 : Nat) ∧ ([] : List UInt8).length ≤ (4 : Nat) * (p + (↑(decA s p.toNat).snd : Int)).toNat ∧ (0 : Int) ≤ (0 : Int) ∧ (0 : Int) ≤ p + (↑(decA s p.toNat).snd : Int) ∧ (out ++ [AV.str (pre ++ one)]).length ≤ (p + (↑(decA s p.toNat).snd : Int)).toNat ∧ (9 : Nat) = (9 : TypeId)) then k (Ex.exit (0 : Nat)) [AV.str tx, AV.str pre, AV.slz Sh.str, AV.own (900 : Nat), AV.str (tkH pre s (p + (↑(decA s p.toNat).snd : Int)).toNat ([] : List UInt8) (0 : Int)).snd.fst, AV.int IntKind.i64 (tkH pre s (p + (↑(decA s p.toNat).snd : Int)).toNat ([] : List UInt8) (0 : Int)).snd.snd.fst, AV.eptr (258 : Nat) (0 : Nat) (0 : Nat)] [some (Row.box false [AV.tup [AV.str s, AV.int IntKind.i64 (↑(tkH pre s (p + (↑(decA s p.toNat).snd : Int)).toNat ([] : List UInt8) (0 : Int)).snd.snd.snd : Int)]]), some (Row.arr false Sh.str (9 : Nat) (out ++ [AV.str (pre ++ one)] ++ List.map AV.str (tkH pre s (p + (↑(decA s p.toNat).snd : Int)).toNat ([] : List UInt8) (0 : Int)).fst) none)] else none else none else none else none else bif decide (((↑s.length : Int) - (p + (↑(decA s p.toNat).snd : Int))).toNat < ((↑s.length : Int) - p).toNat) then bif decide ((0 : Int) ≤ p + (↑(decA s p.toNat).snd : Int) ∧ (p + (↑(decA s p.toNat).snd : Int)).toNat ≤ s.length + (3 : Nat) ∧ s.length ≤ (100000 : Nat) ∧ pre.length ≤ (1000 : Nat) ∧ ([] : List UInt8).length ≤ (4 : Nat) * (p + (↑(decA s p.toNat).snd : Int)).toNat ∧ (0 : Int) ≤ (0 : Int) ∧ (0 : Int) ≤ p + (↑(decA s p.toNat).snd : Int) ∧ out.length ≤ (p + (↑(decA s p.toNat).snd : Int)).toNat ∧ (9 : TypeId) = (9 : TypeId)) then k (Ex.exit (0 : Nat)) [AV.str tx, AV.str pre, AV.slz Sh.str, AV.own (900 : Nat), AV.str (tkH pre s (p + (↑(decA s p.toNat).snd : Int)).toNat ([] : List UInt8) (0 : Int)).snd.fst, AV.int IntKind.i64 (tkH pre s (p + (↑(decA s p.toNat).snd : Int)).toNat ([] : List UInt8) (0 : Int)).snd.snd.fst, AV.eptr (258 : Nat) (0 : Nat) (0 : Nat)] [some (Row.box false [AV.tup [AV.str s, AV.int IntKind.i64 (↑(tkH pre s (p + (↑(decA s p.toNat).snd : Int)).toNat ([] : List UInt8) (0 : Int)).snd.snd.snd : Int)]]), some (Row.arr false Sh.str (9 : Nat) (out ++ List.map AV.str (tkH pre s (p + (↑(decA s p.toNat).snd : Int)).toNat ([] : List UInt8) (0 : Int)).fst) none)] else none else none else none else k (Ex.exit (0 : Nat)) [AV.str tx, AV.str pre, AV.slz Sh.str, AV.own (900 : Nat), AV.str one, AV.int IntKind.i64 n, AV.eptr (258 : Nat) (0 : Nat) (0 : Nat)] [some (Row.box false [AV.tup [AV.str s, AV.int IntKind.i64 p]]), some (Row.arr false Sh.str (9 : Nat) out none)]) (by kernel_rfl) ?_
    rw [← hk]
    obtain ⟨q, rfl⟩ : ∃ q : Nat, p = q := ⟨p.toNat, by omega⟩
    simp only [Int.toNat_natCast] at *
    by_cases hlt : q < s.length
    · have d1 := decA_pos s q
      have d4 := decA_wid s q
      have dl := decA_le s q
      have hx : ((q : Int) + ((decA s q).2 : Nat)) = ((q + (decA s q).2 : Nat) : Int) := by omega
      have hw : IntKind.i64.wrap (n + 1) = n + 1 := wrap_mid _ (by omega) (by omega)
      have he := encA_len (toLowerU ((decA s q).1 : Nat))
      rw [hw]
      rw [tkH_step hlt]
      simp only [hx, Int.toNat_natCast]
      have e5 : decide (((s.length : Int) - ((q + (decA s q).2 : Nat) : Int)).toNat < ((s.length : Int) - (q : Int)).toNat) = true := decide_eq_true (by omega)
      have hr32 : r32 ((decA s q).1 : Nat) = true := by simp [r32]; omega
      refine Eq.trans (cond_t (decide_eq_true (by omega))) (Eq.trans (cond_t hr32) ?_)
      cases ltU ((decA s q).1 : Nat)
      · simp only [cond_false]
        cases inR n 3 20
        · simp only [cond_false]
          refine Eq.trans (cond_t e5) (Eq.trans (cond_t (decide_eq_true ⟨by omega, by omega, h2, h3, Nat.zero_le _, by first | trivial | omega, by omega, by omega, by first | trivial | rfl⟩)) ?_)
          rfl
        · simp only [cond_true]
          refine Eq.trans (cond_t (lenB_t (by omega))) (Eq.trans (cond_t (roomB_small (by show _ + 1 ≤ _; omega) by9)) (Eq.trans (cond_t e5) (Eq.trans (cond_t (decide_eq_true ⟨by omega, by omega, h2, h3, Nat.zero_le _, by first | trivial | omega, by omega, by rw [List.length_append, List.length_singleton]; omega, by first | trivial | rfl⟩)) ?_)))
          simp only [List.append_assoc]
          rfl
      · simp only [cond_true]
        refine Eq.trans (cond_t (lenB_t (by omega))) (Eq.trans (cond_t e5) (Eq.trans (cond_t (decide_eq_true ⟨by omega, by omega, h2, h3, by rw [List.length_append]; omega, by omega, by omega, by omega, by first | trivial | rfl⟩)) ?_))
        rfl
    · rw [decide_eq_false (show ¬ (q : Int) < (s.length : Int) by omega), tkH_end hlt]
      show k _ _ [_, some (.arr false .str 9 out none)] = k _ _ [_, some (.arr false .str 9 (out ++ []) none)]
      rw [List.append_nil]
  · cases h
/-- The document's tokens of a text. -/
def tkS (pre tx : List UInt8) : List (List UInt8) := (tkH pre (tx ++ [32]) 0 [] 0).1
def F11 : List AV → Tr AV
  | [.str tx, .str pre] => .gd (decide (tx.length ≤ 50000 ∧ pre.length ≤ 1000)) (.leaf (.slv .str ((tkS pre tx).map AV.str)))
  | _ => .no
theorem ok11 : SumOK Tryd.prog 11 (ofT F11) ∧ SNat (ofT F11) := by
  refine fn1 (K := [(5, l11)]) (b := b11) (l := l11) g11 Tryd.func11 (by kernel_rfl) (by kernel_rfl) loop11 fun ρ avs k r h => ?_
  unfold F11 at h
  split at h
  · rename_i tx pre
    obtain ⟨hc, hk⟩ := gd_some h
    obtain ⟨h1, h2⟩ := of_decide_eq_true hc
    refine Eq.trans (b := bif lenB (tx.length + ([(32 : UInt8)] : List UInt8).length) then bif decide ((0 : Int) ≤ (0 : Int) ∧ Int.toNat (0 : Int) ≤ (tx ++ ([(32 : UInt8)] : List UInt8)).length + (3 : Nat) ∧ (tx ++ ([(32 : UInt8)] : List UInt8)).length ≤ (100000 : Nat) ∧ pre.length ≤ (1000 : Nat) ∧ ([] : List UInt8).length ≤ (4 : Nat) * Int.toNat (0 : Int) ∧ (0 : Int) ≤ (0 : Int) ∧ (0 : Int) ≤ (0 : Int) ∧ ([] : List AV).length ≤ Int.toNat (0 : Int) ∧ ((5 : Nat), (900 : Nat), (9 : TypeId)).snd.snd = (9 : TypeId)) then k (AV.slv Sh.str ([] ++ List.map AV.str (tkH pre (tx ++ ([(32 : UInt8)] : List UInt8)) (0 : Nat) ([] : List UInt8) (0 : Int)).fst)) else none else none) (by kernel_rfl) ?_
    rw [← hk]
    refine Eq.trans (cond_t (lenB_t (by simp only [List.length_cons, List.length_nil]; omega))) (Eq.trans (cond_t (decide_eq_true ⟨by first | trivial | omega, Nat.zero_le _, by simp only [List.length_append, List.length_cons, List.length_nil]; omega, h2, Nat.zero_le _, by first | trivial | omega, by first | trivial | omega, Nat.zero_le _, by first | trivial | rfl⟩)) ?_)
    rfl
  · cases h
end Go.Proofs.YtghinideddfcpaaDoor

/-
  Plain: the fields of a text, shortened and in small letters, are the document's tokens.
-/
namespace Go.Proofs.YtghinideddfcpaaDoor
open Go.Ev Go.Lib

/-! runes -/
theorem decN_cong {n m b0 b1 b2 b3 c1 c2 c3 : Nat} (h1 : (1 < n ∧ b1 / 64 = 2) ↔ (1 < m ∧ c1 / 64 = 2)) (h2 : (2 < n ∧ b2 / 64 = 2) ↔ (2 < m ∧ c2 / 64 = 2)) (h3 : (3 < n ∧ b3 / 64 = 2) ↔ (3 < m ∧ c3 / 64 = 2))
    (e1 : 1 < n → b1 = c1) (e2 : 2 < n → b2 = c2) (e3 : 3 < n → b3 = c3) : decodeN n b0 b1 b2 b3 = decodeN m b0 c1 c2 c3 := by
  unfold decodeN
  simp only [← h1, ← h2, ← h3]
  by_cases q1 : 1 < n ∧ b1 / 64 = 2
  · obtain rfl := e1 q1.1
    by_cases q2 : 2 < n ∧ b2 / 64 = 2
    · obtain rfl := e2 q2.1
      by_cases q3 : 3 < n ∧ b3 / 64 = 2
      · obtain rfl := e3 q3.1
        rfl
      · simp [q3]
    · simp [q2]
  · simp [q1]
theorem decN_same {n m b0 b1 b2 b3 c1 c2 c3 : Nat} (hr : (decodeN n b0 b1 b2 b3).1 ≠ 65533) (hm : (decodeN n b0 b1 b2 b3).2 ≤ m)
    (e1 : 1 < (decodeN n b0 b1 b2 b3).2 → b1 = c1) (e2 : 2 < (decodeN n b0 b1 b2 b3).2 → b2 = c2) (e3 : 3 < (decodeN n b0 b1 b2 b3).2 → b3 = c3) : decodeN m b0 c1 c2 c3 = decodeN n b0 b1 b2 b3 := by
  generalize hd : decodeN n b0 b1 b2 b3 = d at *
  unfold decodeN at hd
  split at hd
  · subst hd
    rename_i h0
    unfold decodeN
    rw [if_pos h0]
  · rename_i h0
    split at hd
    · rename_i h6
      split at hd
      · rename_i hv
        subst hd
        obtain rfl := e1 (by simp)
        unfold decodeN
        rw [if_neg h0, if_pos ⟨h6.1, by simp at hm; omega, h6.2.2⟩, if_pos hv]
      · subst hd; exact absurd rfl hr
    · rename_i h6
      split at hd
      · rename_i h14
        split at hd
        · rename_i hv
          subst hd
          obtain rfl := e1 (by simp)
          obtain rfl := e2 (by simp)
          simp at hm
          unfold decodeN
          rw [if_neg h0, if_neg (by omega), if_pos ⟨h14.1, ⟨by omega, h14.2.1.2⟩, by omega, h14.2.2.2⟩, if_pos hv]
        · subst hd; exact absurd rfl hr
      · rename_i h14
        split at hd
        · rename_i h30
          split at hd
          · rename_i hv
            subst hd
            obtain rfl := e1 (by simp)
            obtain rfl := e2 (by simp)
            obtain rfl := e3 (by simp)
            simp at hm
            unfold decodeN
            rw [if_neg h0, if_neg (by omega), if_neg (by omega), if_pos ⟨h30.1, ⟨by omega, h30.2.1.2⟩, ⟨by omega, h30.2.2.1.2⟩, by omega, h30.2.2.2.2⟩, if_pos hv]
          · subst hd; exact absurd rfl hr
        · subst hd; exact absurd rfl hr
/-- A rune's bytes, whatever follows. -/
theorem dec_take {l : List UInt8} (hne : l ≠ []) (hr : (decodeL l).1 ≠ 65533) (t : List UInt8) : decodeL (l.take (decodeL l).2 ++ t) = decodeL l := by
  have hw := decodeL_width l
  have hl := decodeL_le l hne
  have hg : ∀ i, i < (decodeL l).2 → (l.take (decodeL l).2 ++ t).getD i 0 = l.getD i 0 := fun i hi => by
    rw [List.getD, List.getD, List.getElem?_append_left (by rw [List.length_take]; omega), List.getElem?_take_of_lt hi]
  rw [decodeL_N (l.take (decodeL l).2 ++ t), hg 0 (by omega)]
  have h2 := decodeL_N l
  rw [h2] at hr hw hl hg ⊢
  refine decN_same hr (by rw [List.length_append, List.length_take]; omega) (fun h => ?_) (fun h => ?_) (fun h => ?_)
  · rw [hg 1 h]
  · rw [hg 2 h]
  · rw [hg 3 h]
theorem get_list (s : List UInt8) (i : Nat) : (ByteArray.mk s.toArray).get! i = s.getD i 0 := by
  have := Lib.getD_get!' ⟨s.toArray⟩ i
  rw [← this]
/-- A space behind a text does not change its runes. -/
theorem decA_space {s : List UInt8} {p : Nat} (hp : p < s.length) : decA (s ++ [32]) p = decA s p := by
  unfold decA
  rw [Lib.decode_at, Lib.decode_at]
  have hs : (ByteArray.mk (s ++ [32]).toArray).size = s.length + 1 := by rw [Ev.size_mk, List.length_append]; rfl
  have hs2 : (ByteArray.mk s.toArray).size = s.length := Ev.size_mk s
  have hg : ∀ i, i < s.length → (s ++ [32]).getD i 0 = s.getD i 0 := fun i hi => by
    rw [List.getD, List.getD, List.getElem?_append_left hi]
  have hz : ∀ i, ¬ i < s.length → ((s ++ [32]).getD i 0).toNat / 64 ≠ 2 := fun i hi => by
    rw [List.getD, List.getElem?_append_right (by omega)]
    cases h : i - s.length with
    | zero => simp
    | succ k => simp
  rw [hs, hs2, get_list, get_list, get_list, get_list, get_list, get_list, get_list, get_list, hg p hp]
  have key : ∀ j, (j < s.length + 1 - p ∧ ((s ++ [32]).getD (p + j) 0).toNat / 64 = 2) ↔ (j < s.length - p ∧ (s.getD (p + j) 0).toNat / 64 = 2) := fun j => by
    by_cases h : p + j < s.length
    · rw [hg _ h]
      constructor
      · rintro ⟨_, h2⟩; exact ⟨by omega, h2⟩
      · rintro ⟨_, h2⟩; exact ⟨by omega, h2⟩
    · constructor
      · rintro ⟨_, h2⟩; exact absurd h2 (hz _ h)
      · rintro ⟨h1, _⟩; omega
  refine (decN_cong ((key 1).symm) ((key 2).symm) ((key 3).symm) (fun h => ?_) (fun h => ?_) (fun h => ?_)).symm
  · rw [hg _ (by omega)]
  · rw [hg _ (by omega)]
  · rw [hg _ (by omega)]
theorem decA_drop (s : List UInt8) (p : Nat) : decA s p = decodeL (s.drop p) := (decodeL_drop ⟨s.toArray⟩ p).symm
def encN (c : Nat) : List UInt8 := (if c < 0x80 then (⟨#[UInt8.ofNat c]⟩ : ByteArray) else if c < 0x800 then ⟨#[UInt8.ofNat (0xC0 + c / 64), UInt8.ofNat (0x80 + c % 64)]⟩
  else if c < 0x10000 then ⟨#[UInt8.ofNat (0xE0 + c / 4096), UInt8.ofNat (0x80 + c / 64 % 64), UInt8.ofNat (0x80 + c % 64)]⟩
  else ⟨#[UInt8.ofNat (0xF0 + c / 262144), UInt8.ofNat (0x80 + c / 4096 % 64), UInt8.ofNat (0x80 + c / 64 % 64), UInt8.ofNat (0x80 + c % 64)]⟩).data.toList
theorem encA_N (r : Int) : encA r = encN (if Utf8.valid r = true then r.toNat else Utf8.runeError) := rfl
theorem encN_1 {m : Nat} (h : m < 128) : encN m = encodeRune (m : Int) := by
  unfold encN encodeRune
  rw [if_pos h, encodeRuneZ_one (by omega) (by omega)]
  rfl
theorem encN_2 {m : Nat} (h : 128 ≤ m) (h' : m < 2048) : encN m = encodeRune (m : Int) := by
  unfold encN encodeRune
  rw [if_neg (by omega), if_pos h', encodeRuneZ_two (by omega) (by omega)]
  have e1 : (192 + (m : Int) / 64).toNat = 192 + m / 64 := by omega
  have e2 : (128 + (m : Int) % 64).toNat = 128 + m % 64 := by omega
  simp only [List.map_cons, List.map_nil, e1, e2]
theorem encN_3 {m : Nat} (h : 2048 ≤ m) (h' : m < 65536) (hs : ¬ (55296 ≤ m ∧ m ≤ 57343)) : encN m = encodeRune (m : Int) := by
  unfold encN encodeRune
  rw [if_neg (by omega), if_neg (by omega), if_pos h', encodeRuneZ_three (by omega)]
  have e1 : (224 + (m : Int) / 4096).toNat = 224 + m / 4096 := by omega
  have e2 : (128 + (m : Int) / 64 % 64).toNat = 128 + m / 64 % 64 := by omega
  have e3 : (128 + (m : Int) % 64).toNat = 128 + m % 64 := by omega
  simp only [List.map_cons, List.map_nil, e1, e2, e3]
theorem encN_4 {m : Nat} (h : 65536 ≤ m) (h' : m ≤ 1114111) : encN m = encodeRune (m : Int) := by
  unfold encN encodeRune
  rw [if_neg (by omega), if_neg (by omega), if_neg (by omega), encodeRuneZ_four (by omega) (by omega)]
  have e1 : (240 + (m : Int) / 262144).toNat = 240 + m / 262144 := by omega
  have e2 : (128 + (m : Int) / 4096 % 64).toNat = 128 + m / 4096 % 64 := by omega
  have e3 : (128 + (m : Int) / 64 % 64).toNat = 128 + m / 64 % 64 := by omega
  have e4 : (128 + (m : Int) % 64).toNat = 128 + m % 64 := by omega
  simp only [List.map_cons, List.map_nil, e1, e2, e3, e4]
theorem encA_eq {r : Int} (h : 0 ≤ r) : encA r = encodeRune r := by
  obtain ⟨m, rfl⟩ : ∃ m : Nat, r = m := ⟨r.toNat, by omega⟩
  rw [encA_N]
  by_cases hb : (55296 ≤ m ∧ m ≤ 57343) ∨ 1114111 < m
  · have hv : Utf8.valid (m : Int) = false := by
      unfold Utf8.valid
      simp only [Bool.or_eq_false_iff, Bool.and_eq_false_iff, decide_eq_false_iff_not]
      omega
    rw [hv, if_neg (by decide)]
    have := encN_3 (m := 65533) (by omega) (by omega) (by omega)
    rw [show Utf8.runeError = 65533 from rfl, this]
    have e : encodeRuneZ ((65533 : Nat) : Int) = [239, 191, 189] := by
      rw [encodeRuneZ_three (by omega)]
      rfl
    unfold encodeRune
    rw [e, encodeRuneZ_bad (r := (m : Int)) (by omega)]
  · have hv : Utf8.valid (m : Int) = true := by
      unfold Utf8.valid
      simp only [Bool.or_eq_true, Bool.and_eq_true, decide_eq_true_eq]
      omega
    rw [hv, if_pos rfl, Int.toNat_natCast]
    by_cases h1 : m < 128
    · exact encN_1 h1
    by_cases h2 : m < 2048
    · exact encN_2 (by omega) h2
    by_cases h3 : m < 65536
    · exact encN_3 (by omega) h3 (fun h => hb (.inl h))
    · exact encN_4 (by omega) (by omega)
theorem let_no : isLetterU 65533 = false := by kernel_rfl
theorem dig_no : isDigitU 65533 = false := by kernel_rfl
theorem ltU_not (r : Nat) : ltU (r : Int) = !notW r := by
  unfold ltU notW
  by_cases h : r = 65533
  · subst h
    show (!((65533 : Int) == 65533) && (isLetterU 65533 || isDigitU 65533)) = !(!isLetterU 65533 && !isDigitU 65533)
    rw [let_no, dig_no]
    rfl
  · have : ((r : Int) == 65533) = false := beq_eq_false_iff_ne.2 (by omega)
    rw [this]
    cases isLetterU (r : Int) <;> cases isDigitU (r : Int) <;> rfl
/-! whole runes -/
/-- A rune that is read as it is written. -/
structure Rn (r : Nat) : Prop where
  ne : encodeRune (r : Int) ≠ []
  dec : ∀ t, decodeL (encodeRune (r : Int) ++ t) = (r, (encodeRune (r : Int)).length)
  le : r ≤ 1114111
theorem rn_of {l : List UInt8} (hne : l ≠ []) (hr : (decodeL l).1 ≠ 65533) : Rn (decodeL l).1 ∧ encodeRune ((decodeL l).1 : Int) = l.take (decodeL l).2 := by
  have he := encode_decode l hne (fun h => hr h.1)
  have hw := decodeL_width l
  have hl := decodeL_le l hne
  have hlen : (l.take (decodeL l).2).length = (decodeL l).2 := by rw [List.length_take]; omega
  refine ⟨⟨?_, fun t => ?_, decodeL_rune l⟩, he⟩
  · rw [he]
    intro h0
    rw [h0] at hlen
    simp at hlen
    omega
  · rw [he, dec_take hne hr t, hlen]
def encs (rs : List Nat) : List UInt8 := rs.flatMap fun r : Nat => encodeRune ((r : Nat) : Int)
theorem encs_cons (r : Nat) (rs : List Nat) : encs (r :: rs) = encodeRune (r : Int) ++ encs rs := rfl
theorem encs_app (a b : List Nat) : encs (a ++ b) = encs a ++ encs b := by unfold encs; rw [List.flatMap_append]
theorem count_drop (s : List UInt8) : ∀ (f p : Nat), runeCountFrom ⟨s.toArray⟩ f p = runeCountFrom ⟨(s.drop p).toArray⟩ f 0 := fun f p => by
  have := tail_count ⟨s.toArray⟩ p f 0
  rw [Nat.add_zero] at this
  rw [← this]
  congr 1
  have h := extract_from ⟨s.toArray⟩ p
  rw [h]
theorem count_cons {r : Nat} (h : Rn r) (t : List UInt8) : runeCountL (encodeRune (r : Int) ++ t) = runeCountL t + 1 := by
  have hne : encodeRune (r : Int) ++ t ≠ [] := fun e => h.ne (List.append_eq_nil_iff.1 e).1
  have hpos : 0 < (encodeRune (r : Int) ++ t).length := List.length_pos_iff.2 hne
  obtain ⟨m, hm⟩ : ∃ m, (encodeRune (r : Int) ++ t).length = m + 1 := ⟨_, (Nat.succ_pred_eq_of_pos hpos).symm⟩
  unfold runeCountL runeCount
  rw [Ev.size_mk, Ev.size_mk, hm]
  conv => lhs; unfold runeCountFrom
  rw [if_pos (by rw [Ev.size_mk]; exact hpos), Nat.zero_add]
  have hd : Utf8.decode ⟨(encodeRune (r : Int) ++ t).toArray⟩ 0 = (r, (encodeRune (r : Int)).length) := h.dec t
  rw [hd, count_drop, List.drop_left, Nat.add_comm]
  congr 1
  have hlp : 1 ≤ (encodeRune (r : Int)).length := List.length_pos_iff.2 h.ne
  rw [List.length_append] at hm
  exact fuel_enough ⟨t.toArray⟩ m t.length 0 (by rw [Ev.size_mk]; omega) (by rw [Ev.size_mk]; omega)
theorem count_encs : ∀ rs : List Nat, (∀ r ∈ rs, Rn r) → runeCountL (encs rs) = rs.length
  | [], _ => rfl
  | r :: rs, h => by
    rw [encs_cons, count_cons (h r (by simp)), count_encs rs fun x hx => h x (by simp [hx])]
    rfl
def lows (rs : List Nat) : List UInt8 := rs.flatMap fun r : Nat => encodeRune (toLowerU ((r : Nat) : Int))
theorem map_encs : ∀ rs : List Nat, (∀ r ∈ rs, Rn r) → mapD toLowerU (encs rs) = lows rs
  | [], _ => by decide
  | r :: rs, h => by
    have hr := h r (by simp)
    have hne : encs (r :: rs) ≠ [] := fun e => hr.ne (List.append_eq_nil_iff.1 e).1
    rw [mapD_step _ _ hne]
    have hd : decodeL (encs (r :: rs)) = (r, (encodeRune (r : Int)).length) := hr.dec (encs rs)
    have h0 := (toLowerU_range r hr.le).1
    rw [hd]
    simp only []
    rw [if_pos h0, encs_cons, List.drop_left, map_encs rs fun x hx => h x (by simp [hx])]
    rfl
/-! the tokens -/
theorem tkF_app (a b : List (List UInt8)) : tkF (a ++ b) = tkF a ++ tkF b := by unfold tkF; rw [List.filter_append, List.map_append]
theorem tk_close {rs : List Nat} (h : ∀ r ∈ rs, Rn r) : (bif inR (rs.length : Int) 3 20 then [([] : List UInt8) ++ lows rs] else []) = tkF [encs rs] := by
  rw [tkF_cons, map_encs rs h]
  have : lenW (encs rs) = inR (rs.length : Int) 3 20 := by
    unfold lenW
    have := count_encs rs h
    unfold runeCountL at this
    rw [this]
  rw [this]
  rfl
def pcU (s : List UInt8) (x : Nat × Nat) : List UInt8 := pieceU s x.1 x.2
/-- What is begun at a place. -/
def Beg (s : List UInt8) (pos : Nat) (one : List UInt8) (n : Int) : Option Nat → Prop
  | none => one = [] ∧ n = 0
  | some a => a < pos ∧ ∃ rs : List Nat, pieceU s a pos = encs rs ∧ (∀ r ∈ rs, Rn r) ∧ one = lows rs ∧ n = (rs.length : Int)
theorem beg_close {s : List UInt8} {pos : Nat} {one : List UInt8} {n : Int} {a : Nat} (h : Beg s pos one n (some a)) : (bif inR n 3 20 then [([] : List UInt8) ++ one] else []) = tkF [pcU s (a, pos)] := by
  obtain ⟨_, rs, h1, h2, rfl, rfl⟩ := h
  rw [tk_close h2]
  unfold pcU
  rw [h1]
theorem beg_none {s : List UInt8} {pos : Nat} {one : List UInt8} {n : Int} (h : Beg s pos one n none) : (bif inR n 3 20 then [([] : List UInt8) ++ one] else []) = [] := by
  obtain ⟨rfl, rfl⟩ := h
  rfl
theorem lt_space : ltU ((32 : Nat) : Int) = false := by kernel_rfl
theorem tk_eq (s : List UInt8) : ∀ (f pos : Nat) (st : Option Nat) (acc : List (Nat × Nat)) (one : List UInt8) (n : Int), s.length ≤ pos + f → pos ≤ s.length → Beg s pos one n st →
    tkF (acc.map (pcU s)) ++ (tkH [] (s ++ [32]) pos one n).1 = tkF ((closeSpans ⟨s.toArray⟩ (spansFromP notW ⟨s.toArray⟩ f pos st acc)).map (pcU s)) := by
  have hsz : (ByteArray.mk s.toArray).size = s.length := Ev.size_mk s
  have hT : (s ++ [32]).length = s.length + 1 := by rw [List.length_append]; rfl
  -- at the end
  have atEnd : ∀ (st : Option Nat) (acc : List (Nat × Nat)) (one : List UInt8) (n : Int), Beg s s.length one n st → tkF (acc.map (pcU s)) ++ (tkH [] (s ++ [32]) s.length one n).1 = tkF ((closeSpans ⟨s.toArray⟩ (acc, st)).map (pcU s)) := by
    intro st acc one n hb
    have hd : decA (s ++ [32]) s.length = (32, 1) := by
      rw [decA_drop, List.drop_left]
      exact decodeL_ascii 32 [] (by decide)
    rw [tkH_step (by omega), hd]
    simp only []
    rw [lt_space, cond_false, tkH_end (by omega)]
    simp only [List.append_nil]
    cases st with
    | none =>
      rw [beg_none hb]
      simp [closeSpans]
    | some a =>
      rw [beg_close hb]
      simp [closeSpans, tkF_app, hsz]
  intro f
  induction f with
  | zero =>
    intro pos st acc one n hf hp hb
    obtain rfl : pos = s.length := by omega
    exact atEnd st acc one n hb
  | succ f ih =>
    intro pos st acc one n hf hp hb
    by_cases hlt : pos < s.length
    · have hda : decA (s ++ [32]) pos = decA s pos := decA_space hlt
      have hdl : decA s pos = decodeL (s.drop pos) := decA_drop s pos
      have hne : s.drop pos ≠ [] := fun h => by
        have := congrArg List.length h
        rw [List.length_drop] at this
        simp at this
        omega
      have hw := decA_pos s pos
      have hwl : pos + (decA s pos).2 ≤ s.length := by
        have := decodeL_le _ hne
        rw [← hdl, List.length_drop] at this
        omega
      have hdec : Utf8.decode ⟨s.toArray⟩ pos = decA s pos := rfl
      rw [tkH_step (by omega), hda]
      unfold spansFromP
      rw [if_pos (by rw [hsz]; exact hlt), hdec]
      have hln := ltU_not (decA s pos).1
      cases hnw : notW (decA s pos).1
      · rw [hnw] at hln
        rw [hln]
        have hr : (decodeL (s.drop pos)).1 ≠ 65533 := fun e => by
          rw [hdl, e] at hln
          have : ltU ((65533 : Nat) : Int) = false := rfl
          rw [this] at hln
          cases hln
        obtain ⟨hrn, henc⟩ := rn_of hne hr
        rw [← hdl] at hrn henc
        have hlow := encA_eq (toLowerU_range _ hrn.le).1
        simp only [Bool.not_false, cond_true, Bool.false_eq_true, if_false]
        have hpc : pieceU s pos (pos + (decA s pos).2) = encodeRune ((decA s pos).1 : Int) := by
          unfold pieceU
          rw [Nat.add_sub_cancel_left]
          exact henc.symm
        cases st with
        | none =>
          obtain ⟨rfl, rfl⟩ := hb
          refine ih _ (some pos) acc _ _ (by omega) hwl ⟨by omega, [(decA s pos).1], ?_, fun r hr => ?_, ?_, rfl⟩
          · rw [hpc]; simp [encs]
          · simp at hr; subst hr; exact hrn
          · rw [hlow]; simp [lows]
        | some a =>
          obtain ⟨hap, rs, h1, h2, rfl, rfl⟩ := hb
          refine ih _ (some a) acc _ _ (by omega) hwl ⟨by omega, rs ++ [(decA s pos).1], ?_, fun r hr => ?_, ?_, ?_⟩
          · rw [← pieceU_grow _ _ _ _ (Nat.le_of_lt hap), h1, encs_app]
            congr 1
            rw [← henc]
            simp [encs]
          · rcases List.mem_append.1 hr with hr | hr
            · exact h2 r hr
            · simp at hr; subst hr; exact hrn
          · rw [hlow]; simp [lows, List.flatMap_append]
          · rw [List.length_append]; simp
      · rw [hnw] at hln
        rw [hln]
        simp only [Bool.not_true, cond_false, if_true]
        cases st with
        | none =>
          rw [beg_none hb, List.nil_append]
          exact ih _ none acc _ _ (by omega) hwl ⟨rfl, rfl⟩
        | some a =>
          rw [beg_close hb, ← List.append_assoc, ← tkF_app]
          have := ih (pos + (decA s pos).2) none (acc ++ [(a, pos)]) [] 0 (by omega) hwl ⟨rfl, rfl⟩
          rw [List.map_append] at this
          exact this
    · obtain rfl : pos = s.length := by omega
      rw [spansFromP_end notW ⟨s.toArray⟩ _ _ _ _ (by rw [hsz]; exact hlt)]
      exact atEnd st acc one n hb
theorem tk_main (s : List UInt8) : tkF (fldW s) = tkS [] s := by
  have h := tk_eq s s.length 0 none [] [] 0 (by omega) (Nat.zero_le _) ⟨rfl, rfl⟩
  have hf : fldW s = (closeSpans ⟨s.toArray⟩ (spansFromP notW ⟨s.toArray⟩ s.length 0 none [])).map (pcU s) := by
    unfold fldW goFieldsP spansOfP
    rw [Ev.size_mk, List.map_map]
    refine List.map_congr_left fun x _ => ?_
    simp [pcU, pieceU]
  rw [hf, ← h]
  rfl
end Go.Proofs.YtghinideddfcpaaDoor

/-
  Plain: sorted and without repetitions: the document's different texts in order.
-/
namespace Go.Proofs.YtghinideddfcpaaDoor
open Go.Ev Go.Lib

def SS (l : List (List UInt8)) : Prop := l.Pairwise fun a b => blt a b = true
theorem SS.ext : ∀ {a b : List (List UInt8)}, SS a → SS b → (∀ x, x ∈ a ↔ x ∈ b) → a = b
  | [], [], _, _, _ => rfl
  | [], y :: b, _, _, h => by have := (h y).2 (by simp); simp at this
  | x :: a, [], _, _, h => by have := (h x).1 (by simp); simp at this
  | x :: a, y :: b, ha, hb, h => by
    obtain ⟨ha1, ha2⟩ := List.pairwise_cons.1 ha
    obtain ⟨hb1, hb2⟩ := List.pairwise_cons.1 hb
    have hxy : x = y := by
      rcases List.mem_cons.1 ((h x).1 (by simp)) with e | h1
      · exact e
      · rcases List.mem_cons.1 ((h y).2 (by simp)) with e | h2
        · exact e.symm
        · have := blt_asymm (hb1 x h1)
          rw [ha1 y h2] at this
          cases this
    subst hxy
    rw [SS.ext ha2 hb2 fun z => ?_]
    constructor
    · intro hz
      rcases List.mem_cons.1 ((h z).1 (by simp [hz])) with e | h1
      · subst e
        have := ha1 z hz
        rw [blt_irrefl] at this
        cases this
      · exact h1
    · intro hz
      rcases List.mem_cons.1 ((h z).2 (by simp [hz])) with e | h1
      · subst e
        have := hb1 z hz
        rw [blt_irrefl] at this
        cases this
      · exact h1
/-! Different -/
def insL (x : List UInt8) : List (List UInt8) → List (List UInt8)
  | [] => [x]
  | e :: r => bif blt e x then e :: insL x r else bif e == x then x :: r else x :: e :: r
theorem insL_mem (x : List UInt8) : ∀ (l : List (List UInt8)) (z : List UInt8), z ∈ insL x l ↔ z = x ∨ z ∈ l
  | [], z => by unfold insL; simp
  | e :: r, z => by
    unfold insL
    cases blt e x
    · cases h : e == x
      · simp
      · have : e = x := by simpa using h
        subst this
        simp
    · simp only [cond_true, List.mem_cons, insL_mem x r z]
      constructor
      · rintro (h | h | h) <;> simp [h]
      · rintro (h | h | h) <;> simp [h]
theorem insL_ss (x : List UInt8) : ∀ (l : List (List UInt8)), SS l → SS (insL x l)
  | [], _ => by unfold insL SS; simp
  | e :: r, h => by
    obtain ⟨h1, h2⟩ := List.pairwise_cons.1 h
    unfold insL
    cases hb : blt e x
    · cases he : e == x
      · have hne : e ≠ x := by simpa using he
        have hxe : blt x e = true := by
          cases hx : blt x e
          · exact absurd (blt_total hb hx) hne
          · rfl
        refine List.pairwise_cons.2 ⟨fun z hz => ?_, h⟩
        rcases List.mem_cons.1 hz with rfl | hz
        · exact hxe
        · exact blt_trans hxe (h1 z hz)
      · have : e = x := by simpa using he
        subst this
        exact h
    · refine List.pairwise_cons.2 ⟨fun z hz => ?_, insL_ss x r h2⟩
      rcases (insL_mem x r z).1 hz with rfl | hz
      · exact hb
      · exact h1 z hz
theorem goD_past (x : List UInt8) : ∀ l : List (List UInt8), (∀ e ∈ l, blt x e = true) → goD x (l.map AV.str) true = (l.map AV.str, true)
  | [], _ => rfl
  | e :: r, h => by
    have he := h e (by simp)
    have hne : (e == x) = false := by
      cases hh : e == x
      · rfl
      · have : e = x := by simpa using hh
        subst this
        rw [blt_irrefl] at he
        cases he
    rw [List.map_cons, goD_cons, Bool.true_or, goD_past x r fun z hz => h z (by simp [hz])]
    have hs : sE (AV.str e) = e := rfl
    unfold stD
    rw [hs, hne]
    rfl
theorem inD_ins (x : List UInt8) : ∀ l : List (List UInt8), SS l → inD x (l.map AV.str) = (insL x l).map AV.str
  | [], _ => rfl
  | e :: r, h => by
    obtain ⟨h1, h2⟩ := List.pairwise_cons.1 h
    have ih := inD_ins x r h2
    unfold inD at ih ⊢
    have hs : sE (AV.str e) = e := rfl
    rw [List.map_cons, goD_cons, hs]
    unfold insL
    cases hb : blt e x
    · have hpast : ∀ z ∈ r, blt x z = true := fun z hz => by
        have hez := h1 z hz
        cases hx : blt x e
        · have := blt_total hb hx
          subst this
          exact hez
        · exact blt_trans hx hez
      rw [Bool.not_false, Bool.false_or, goD_past x r hpast]
      unfold stD
      rw [hb]
      cases he : e == x
      · rfl
      · have : e = x := by simpa using he
        subst this
        rfl
    · have hne := blt_ne hb
      rw [Bool.not_true, Bool.false_or]
      unfold stD
      rw [hb, hne]
      simp only [Bool.not_true, Bool.and_false, cond_false, Bool.not_false, cond_true, List.nil_append, List.map_cons]
      rw [← ih]
      cases (goD x (r.map AV.str) false).2 <;> rfl
theorem allD_ins : ∀ (l o : List (List UInt8)), SS o → ∃ o', allD (o.map AV.str) (l.map AV.str) = o'.map AV.str ∧ SS o' ∧ ∀ z, z ∈ o' ↔ z ∈ o ∨ z ∈ l
  | [], o, h => ⟨o, rfl, h, fun z => by simp⟩
  | x :: l, o, h => by
    obtain ⟨o', h1, h2, h3⟩ := allD_ins l (insL x o) (insL_ss x o h)
    refine ⟨o', ?_, h2, fun z => ?_⟩
    · rw [List.map_cons, allD_cons]
      have hs : sE (AV.str x) = x := rfl
      rw [hs, inD_ins x o h]
      exact h1
    · rw [h3 z, insL_mem]
      simp only [List.mem_cons]
      constructor
      · rintro ((h | h) | h) <;> simp [h]
      · rintro (h | h | h) <;> simp [h]
/-! Compact behind Sort -/
theorem lt_dec : ∀ (x y : List UInt8), Op.bytesLess x y = decide (x < y)
  | [], [] => by simp [Op.bytesLess]
  | _ :: _, [] => by simp [Op.bytesLess]
  | [], _ :: _ => by simp [Op.bytesLess]
  | a :: x, b :: y => by
    rw [Op.bytesLess, lt_dec x y]
    simp only [List.cons_lt_cons_iff]
    by_cases h1 : a < b <;> by_cases h2 : a = b <;> by_cases h3 : x < y <;> simp [h1, h2, h3]
theorem le_blt {a b : List UInt8} : (a ≤ b) ↔ blt b a = false := by
  unfold blt
  rw [lt_dec, decide_eq_false_iff_not]
  exact List.not_lt.symm
theorem srt_sorted (l : List (List UInt8)) : (srtS l).Pairwise fun a b => blt b a = false := by
  have h := List.pairwise_mergeSort (le := fun x y : List UInt8 => decide (x ≤ y)) (fun a b c h1 h2 => decide_eq_true (List.le_trans (of_decide_eq_true h1) (of_decide_eq_true h2))) (fun a b => by
    rw [Bool.or_eq_true, decide_eq_true_eq, decide_eq_true_eq]
    exact List.le_total a b) l
  exact h.imp fun h => le_blt.1 (of_decide_eq_true h)
theorem srt_mem (l : List (List UInt8)) (x : List UInt8) : x ∈ srtS l ↔ x ∈ l := List.mem_mergeSort
theorem cmp_upto (d : Array (List UInt8)) (hd : ∀ i j, i < j → j < d.size → blt d[j]! d[i]! = false) : ∀ m, m ≤ d.size → SS (compactUpTo d m) ∧ (∀ x, x ∈ compactUpTo d m ↔ ∃ i, i < m ∧ d[i]! = x) ∧ (0 < m → ∀ x ∈ compactUpTo d m, x = d[m - 1]! ∨ blt x d[m - 1]! = true)
  | 0, _ => ⟨by unfold compactUpTo SS; simp, fun x => by unfold compactUpTo; simp, fun h => absurd h (Nat.lt_irrefl _)⟩
  | m + 1, hm => by
    obtain ⟨h1, h2, h3⟩ := cmp_upto d hd m (by omega)
    rw [compactUpTo_succ]
    have hlast : m + 1 - 1 = m := by omega
    rw [hlast]
    by_cases hk : keeps d m = true
    · rw [if_pos hk]
      have hlt : ∀ x ∈ compactUpTo d m, blt x d[m]! = true := fun x hx => by
        obtain ⟨i, hi, rfl⟩ := (h2 x).1 hx
        have hm0 : 0 < m := by omega
        have hne : d[m]! ≠ d[m - 1]! := fun e => by
          rw [keeps_neg hm0 e] at hk; cases hk
        have hs := hd (m - 1) m (by omega) (by omega)
        have hb : blt d[m - 1]! d[m]! = true := by
          cases hb : blt d[m - 1]! d[m]!
          · exact absurd (blt_total hs hb) hne
          · rfl
        rcases h3 hm0 _ hx with e | e
        · rw [e]; exact hb
        · exact blt_trans e hb
      refine ⟨List.pairwise_append.2 ⟨h1, by simp, fun x hx y hy => ?_⟩, fun x => ?_, fun _ x hx => ?_⟩
      · simp at hy; subst hy; exact hlt x hx
      · rw [List.mem_append, h2 x]
        constructor
        · rintro (⟨i, hi, e⟩ | h)
          · exact ⟨i, by omega, e⟩
          · simp at h; exact ⟨m, by omega, h.symm⟩
        · rintro ⟨i, hi, e⟩
          by_cases him : i = m
          · subst him; right; simp [e]
          · exact .inl ⟨i, by omega, e⟩
      · rcases List.mem_append.1 hx with h | h
        · exact .inr (hlt x h)
        · simp at h; exact .inl h
    · rw [if_neg hk, List.append_nil]
      have hm0 : 0 < m := by
        cases m with
        | zero => exact absurd (keeps_lt_one d 0 (by omega)) hk
        | succ m => omega
      have he : d[m]! = d[m - 1]! := Classical.byContradiction fun hne => hk (keeps_pos hne)
      refine ⟨h1, fun x => ?_, fun _ x hx => ?_⟩
      · rw [h2 x]
        constructor
        · rintro ⟨i, hi, e⟩; exact ⟨i, by omega, e⟩
        · rintro ⟨i, hi, e⟩
          by_cases him : i = m
          · subst him; exact ⟨i - 1, by omega, by rw [← he]; exact e⟩
          · exact ⟨i, by omega, e⟩
      · rw [he]; exact h3 hm0 x hx
theorem cmp_ss {l : List (List UInt8)} (h : l.Pairwise fun a b => blt b a = false) : SS (compact l) ∧ ∀ x, x ∈ compact l ↔ x ∈ l := by
  have hg : ∀ i, i < l.length → l.toArray[i]! = l.getD i [] := fun i hi => by
    simp [hi, List.getD]
  obtain ⟨h1, h2, _⟩ := cmp_upto l.toArray (fun i j hij hj => by
    have hj' : j < l.length := by simpa using hj
    have := List.pairwise_iff_getElem.1 h i j (by omega) hj' hij
    rw [hg i (by omega), hg j hj']
    simpa [List.getD, hj', show i < l.length by omega] using this) l.length (by simp)
  refine ⟨h1, fun x => ?_⟩
  have : x ∈ compact l ↔ ∃ i, i < l.length ∧ l.toArray[i]! = x := h2 x
  rw [this]
  constructor
  · rintro ⟨i, hi, e⟩
    rw [hg i hi] at e
    rw [← e]
    simp [List.getD, hi]
  · intro hx
    obtain ⟨i, hi, e⟩ := List.getElem_of_mem hx
    exact ⟨i, hi, by rw [hg i hi]; simp [List.getD, hi, e]⟩
/-- The different texts in order are the document's. -/
theorem dif_main (l : List (List UInt8)) : allD [] (l.map AV.str) = (compact (srtS l)).map AV.str := by
  obtain ⟨o', h1, h2, h3⟩ := allD_ins l [] (by unfold SS; simp)
  obtain ⟨c1, c2⟩ := cmp_ss (srt_sorted l)
  have : o' = compact (srtS l) := SS.ext h2 c1 fun z => by rw [h3 z, c2 z, srt_mem]; simp
  rw [← this]
  exact h1
theorem dif_fst (l : List (List UInt8)) : (allD [] (l.map AV.str)).take 1000 = (fstL l).map AV.str := by
  rw [dif_main]
  unfold fstL
  rw [List.map_take]
end Go.Proofs.YtghinideddfcpaaDoor

/-
  What a law is called with, taken apart by its shape; the frame of a law's statement.
-/
namespace Go.Ev
theorem has_int {k : IntKind} {v : AV} (h : has1 (.int k) v = true) : ∃ n, v = .int k n := by
  cases v <;> simp [has1] at h
  rename_i k' n
  exact ⟨n, by rw [h]⟩
theorem has_bool {v : AV} (h : has1 .bool v = true) : ∃ b, v = .bool b := by
  cases v <;> simp [has1] at h
  exact ⟨_, rfl⟩
theorem has_str {v : AV} (h : has1 .str v = true) : ∃ s, v = .str s := by
  cases v <;> simp [has1] at h
  exact ⟨_, rfl⟩
theorem has_slice {s : Sh} {v : AV} (h : has1 (.slice s) v = true) (hf : Fit v) : ∃ es, v = .slv s es ∧ small es.length = true ∧ (∀ e ∈ es, hasSh s e = true) ∧ ∀ e ∈ es, Fit e := by
  cases hf with
  | slv s' es hm hs hfe =>
    simp only [has1] at h
    have e := Sh.beq_eq _ _ h
    subst e
    exact ⟨es, rfl, decide_eq_true (Nat.le_trans hm (by decide)), hs, hfe⟩
  | _ => simp [has1] at h
theorem hass_cons {s : Sh} {l : List Sh} {cs : List AV} (h : hass (s :: l) cs = true) : ∃ c cs', cs = c :: cs' ∧ has1 s c = true ∧ hass l cs' = true := by
  cases cs with
  | nil => simp [hass] at h
  | cons c cs' => simp only [hass, Bool.and_eq_true] at h; exact ⟨c, cs', rfl, h.1, h.2⟩
theorem hass_nil {cs : List AV} (h : hass [] cs = true) : cs = [] := by
  cases cs with
  | nil => rfl
  | cons c cs' => simp [hass] at h
theorem has_agg {l : List Sh} {v : AV} (h : hasSh (.agg l) v = true) : ∃ cs, v = .agg cs ∧ hass l cs = true := by
  cases v <;> simp [hasSh] at h
  exact ⟨_, rfl, h⟩
theorem Fit.agg_inv {cs : List AV} (h : Fit (.agg cs)) : ∀ c ∈ cs, Fit c := by
  cases h with
  | agg _ h => exact h
theorem Fit.str_inv {s : List UInt8} (h : Fit (.str s)) : s.length ≤ 140737488351232 := by
  cases h with
  | str _ h => exact h
theorem has_sliceR {s : Sh} {v : AV} (h : has1 (.slice s) v = true) (hf : Fit v) : ∃ es, v = .slv s es ∧ es.length ≤ 140737488351232 ∧ (∀ e ∈ es, hasSh s e = true) ∧ ∀ e ∈ es, Fit e := by
  cases hf with
  | slv s' es hm hs hfe =>
    simp only [has1] at h
    have e := Sh.beq_eq _ _ h
    subst e
    exact ⟨es, rfl, hm, hs, hfe⟩
  | _ => simp [has1] at h
theorem Fit.int_inv {k : IntKind} {n : Int} (h : Fit (.int k n)) : (Lit.int k n).wf = true := by
  cases h with
  | int _ _ h => exact h
theorem hasAll_cons {s : Sh} {l : List Sh} {cs : List AV} (h : hasAll (s :: l) cs = true) : ∃ c cs', cs = c :: cs' ∧ hasSh s c = true ∧ hasAll l cs' = true := by
  cases cs with
  | nil => simp [hasAll] at h
  | cons c cs' => simp only [hasAll, Bool.and_eq_true] at h; exact ⟨c, cs', rfl, h.1, h.2⟩
theorem hasAll_nil {cs : List AV} (h : hasAll [] cs = true) : cs = [] := by
  cases cs with
  | nil => rfl
  | cons c cs' => simp [hasAll] at h
end Go.Ev
namespace Go.Proofs.YtghinideddfcpaaDoor
open Go.Ev

def bk (H : Type) : BK H := ⟨Rows.uptoBulk, Rows.uptoBulkAll, fun _ => rfl, fun l => by cases l <;> simp [Rows.uptoBulk], Nat.le_refl _, fun _ => rfl, fun _ _ => rfl, rfl, fun _ _ => rfl⟩
theorem own : ownKnob Tryd.prog.godebug = none := by kernel_rfl

end Go.Proofs.YtghinideddfcpaaDoor

/-
  The frame of the laws' cards: what the listed tables hold when a law is called.
-/
namespace Go.Proofs.YtghinideddfcpaaDoor
open Go.Ev Go.Shelf Go.Lib

theorem gT : Tryd.prog.globalNamed "unicode.properties" = some 0 := by kernel_rfl
theorem tabIs_of_reads {P : Program} {W : World} {name : String} {k : IntKind} {zs : List Int} {g : Nat} {t e : TypeId} {n : Nat}
    (hg : P.globalNamed name = some g) (hty : (P.globals[g]?).map (·.type) = some t) (ht : P.underlying t = some (.array n e)) (he : P.underlying e = some (.int k)) (hce : P.cellsOf e = 1) (hct : P.cellsOf t = n)
    (h : VarReads P W name (tabData k zs)) : TabIs P W name k zs := by
  obtain ⟨g', t', cs, fuel, p, hg', ht', hvar, hd⟩ := h
  obtain rfl := Option.some.inj (hg.symm.trans hg')
  obtain rfl := Option.some.inj (hty.symm.trans ht')
  unfold TabIs
  rw [hvar, ← cells_of_tab ht he hce hct hd]
theorem xL : RExtra Tryd.prog Tryd.lays200_ren := ⟨by kernel_rfl, by kernel_rfl, by kernel_rfl, by kernel_rfl, by kernel_rfl, by kernel_rfl, by kernel_rfl, by kernel_rfl⟩
theorem xC : CaseExtra Tryd.prog Tryd.lays204_ren := ⟨by kernel_rfl, by kernel_rfl, by kernel_rfl, by kernel_rfl, by kernel_rfl, by kernel_rfl⟩
theorem xU : U8Extra Tryd.prog Tryd.lays230_ren := ⟨by kernel_rfl, by kernel_rfl, by kernel_rfl, by kernel_rfl, by kernel_rfl, by kernel_rfl, by kernel_rfl⟩
def laidL : List (String × DataW Unit) := Rows.tokensMatchesSpecRow.laid
theorem acc_eq : Rows.laid_unicode_utf8_acceptRanges (H := Unit) = acceptData := by kernel_rfl
theorem prop_eq : Rows.laid_unicode_properties (H := Unit) = tabData .u8 propertiesTab := by kernel_rfl
theorem mem0 : ("unicode/utf8.acceptRanges", acceptData) ∈ laidL := by rw [← acc_eq]; exact .head _
theorem mem1 : ("unicode.properties", tabData .u8 propertiesTab) ∈ laidL := by rw [← prop_eq]; exact .tail _ (.head _)
theorem mem2 : ("unicode.CaseRanges", caseData) ∈ laidL := by rw [← Pinned.caseRanges_eq]; exact .tail _ (.tail _ (.head _))
theorem mem3 : ("unicode.Digit", rtabData digitT) ∈ laidL := by rw [← Pinned.digit_eq]; exact .tail _ (.tail _ (.tail _ (.head _)))
theorem mem4 : ("unicode.Letter", rtabData letterT) ∈ laidL := by rw [← Pinned.letter_eq]; exact .tail _ (.tail _ (.tail _ (.tail _ (.head _))))
theorem mem5 : ("unicode/utf8.first", firstData) ∈ laidL := by rw [← Pinned.utf8First_eq]; exact .tail _ (.tail _ (.tail _ (.tail _ (.tail _ (.head _)))))
theorem facts_of {w : World} (h : laidMet Tryd.prog laidL w) : Facts w :=
  ⟨tabIs_of_reads gT (t := 53) (e := 5) (n := 256) (by kernel_rfl) (by kernel_rfl) (by kernel_rfl) (by kernel_rfl) (by kernel_rfl) (laidMet.reads h mem1),
   rvar_of_reads { Tryd.lays200 with } xL (by kernel_rfl) (by kernel_rfl) (laidMet.reads h mem4),
   rvar_of_reads { Tryd.lays200 with } xL (by kernel_rfl) (by kernel_rfl) (laidMet.reads h mem3),
   caseVar_of_reads { Tryd.lays204 with } Tryd.lays204.t206 xC (laidMet.reads h mem2),
   utf8Tabs_of_reads { Tryd.lays230 with } xU (laidMet.reads h mem5) (laidMet.reads h mem0)⟩
theorem glb_of {w : World} (h : laidMetH Tryd.prog laidL w) : Glb (fun b => b < w.heap.size) w := by
  rw [MakeChecks.laidMetH_plain _ _ _ (by kernel_rfl)] at h
  exact fun w' hk => facts_below (facts_of h) hk.below
end Go.Proofs.YtghinideddfcpaaDoor

/-
  A small text is split (worded); bounds on what Split returns.
-/
namespace Go.Proofs.YtghinideddfcpaaDoor
open Go.Ev Go.Lib

/-! bounds -/
def stN (st : Option Nat) : Nat := if st.isSome then 1 else 0
theorem spn_len (p : Nat → Bool) (s : ByteArray) : ∀ (f pos : Nat) (st : Option Nat) (acc : List (Nat × Nat)), (spansFromP p s f pos st acc).1.length + stN (spansFromP p s f pos st acc).2 ≤ acc.length + stN st + f
  | 0, _, _, _ => by unfold spansFromP; exact Nat.le_refl _
  | f + 1, pos, st, acc => by
    unfold spansFromP
    split
    · split <;> cases st
      · refine Nat.le_trans (spn_len p s f _ _ _) (by omega)
      · refine Nat.le_trans (spn_len p s f _ _ _) ?_
        simp only [stN, List.length_append, List.length_singleton, Option.isSome_none, Option.isSome_some, if_true, Bool.false_eq_true, if_false]
        omega
      · refine Nat.le_trans (spn_len p s f _ _ _) ?_
        simp [stN]
        try omega
      · refine Nat.le_trans (spn_len p s f _ _ _) ?_
        simp [stN]
        try omega
    · show acc.length + stN st ≤ _
      omega
theorem fldW_len (s : List UInt8) : (fldW s).length ≤ s.length := by
  unfold fldW goFieldsP spansOfP
  rw [List.length_map, List.length_map, Ev.size_mk]
  have h := spn_len notW ⟨s.toArray⟩ s.length 0 none []
  unfold closeSpans
  generalize spansFromP notW ⟨s.toArray⟩ s.length 0 none [] = x at h ⊢
  obtain ⟨l, o⟩ := x
  cases o <;> simp [stN] at h ⊢ <;> omega
theorem fldW_each (s x : List UInt8) (h : x ∈ fldW s) : x.length ≤ s.length := by
  unfold fldW goFieldsP at h
  rw [List.map_map] at h
  obtain ⟨y, _, rfl⟩ := List.mem_map.1 h
  show ((ByteArray.mk s.toArray).extract y.1 y.2).data.toList.length ≤ s.length
  have : ((ByteArray.mk s.toArray).extract y.1 y.2).size ≤ (ByteArray.mk s.toArray).size := by
    rw [ByteArray.size_extract]; omega
  rw [Ev.size_mk] at this
  rw [Array.length_toList]
  exact this
theorem tkF_len (fs : List (List UInt8)) : (tkF fs).length ≤ fs.length := by
  unfold tkF
  rw [List.length_map]
  exact List.length_filter_le _ _
theorem txB_of {s : List UInt8} (h : s.length ≤ 50000) : txB s = true := by
  unfold txB
  have := fldW_len s
  refine and_t (decide_eq_true h) (and_t (decide_eq_true (by omega)) (List.all_eq_true.2 fun e he => ?_))
  obtain ⟨x, hx, rfl⟩ := List.mem_map.1 he
  have := fldW_each s x hx
  exact decide_eq_true (show x.length ≤ 1000000 by omega)
theorem tk_len (s : List UInt8) : (tkF (fldW s)).length ≤ s.length := Nat.le_trans (tkF_len _) (fldW_len s)
theorem spl_ok {s : List UInt8} : (decide ((s.length : Int) > 4000) || (txB s && decide ((tkF (fldW s)).length ≤ 1000000))) = true := by
  by_cases h : (s.length : Int) > 4000
  · rw [decide_eq_true h]; rfl
  · rw [txB_of (show s.length ≤ 50000 by omega), decide_eq_true (show (tkF (fldW s)).length ≤ 1000000 by have := tk_len s; omega), Bool.and_true, Bool.or_true]
/-! what Split returns, in the document's words -/
theorem splL_eq {s : List UInt8} (h : ¬ (s.length : Int) > 4000) : (splL s).map AV.str = (allD [] ((tkS [] s).map AV.str)).take 1000 := by
  unfold splL
  rw [decide_eq_false h, cond_false, ← dif_fst, tk_main]
theorem stB_self (a : List AV) : stB a a = true := by
  unfold stB
  have hd : ∀ i, difS a a i = false := fun i => by
    show (!(sE (a.getD i .unk) == sE (a.getD i .unk))) = false
    rw [beq_self_eq_true]; rfl
  rw [findN_of_none (p := difS a a) (fun j _ _ => hd j)]
  simp
def smW : List UInt8 := [78, 111, 32, 109, 97, 105, 108, 44, 32, 78, 111, 32, 77, 65, 73, 76, 33, 32, 108, 97, 116, 101]
theorem sm_tk : tkS [] smW = [[109, 97, 105, 108], [109, 97, 105, 108], [108, 97, 116, 101]] := by kernel_rfl
theorem sm_spl : (splL smW).map AV.str = [AV.str [108, 97, 116, 101], AV.str [109, 97, 105, 108]] := by
  rw [splL_eq (by decide), sm_tk]
  kernel_rfl
noncomputable def G8 : Env := { pure := [(6, ofT F6), (9, ofT F9)] }
theorem g8 : GOK Tryd.prog G8 := GOK.also (GOK.also g0 ok9) ok6
def F8 : List AV → Tr AV
  | [] => .leaf (.bool true)
  | _ => .no
theorem ok8 : SumOK Tryd.prog 8 (ofT F8) ∧ SNat (ofT F8) := by
  refine fn0 g8 Tryd.func8 (by kernel_rfl) fun ρ avs k r h => ?_
  unfold F8 at h
  split at h
  · have hk := h
    refine Eq.trans (b := bif small (List.map AV.str (splL ([(78 : UInt8), (111 : UInt8), (32 : UInt8), (109 : UInt8), (97 : UInt8), (105 : UInt8), (108 : UInt8), (44 : UInt8), (32 : UInt8), (78 : UInt8), (111 : UInt8), (32 : UInt8), (77 : UInt8), (65 : UInt8), (73 : UInt8), (76 : UInt8), (33 : UInt8), (32 : UInt8), (108 : UInt8), (97 : UInt8), (116 : UInt8), (101 : UInt8)] : List UInt8))).length then k (AV.bool (stB (List.map AV.str (splL ([(78 : UInt8), (111 : UInt8), (32 : UInt8), (109 : UInt8), (97 : UInt8), (105 : UInt8), (108 : UInt8), (44 : UInt8), (32 : UInt8), (78 : UInt8), (111 : UInt8), (32 : UInt8), (77 : UInt8), (65 : UInt8), (73 : UInt8), (76 : UInt8), (33 : UInt8), (32 : UInt8), (108 : UInt8), (97 : UInt8), (116 : UInt8), (101 : UInt8)] : List UInt8))) [AV.str [(108 : UInt8), (97 : UInt8), (116 : UInt8), (101 : UInt8)], AV.str [(109 : UInt8), (97 : UInt8), (105 : UInt8), (108 : UInt8)]])) else none) (by kernel_rfl) ?_
    rw [← hk]
    show (bif small ((splL smW).map AV.str).length then k (.bool (stB ((splL smW).map AV.str) [AV.str [108, 97, 116, 101], AV.str [109, 97, 105, 108]])) else none) = k (.bool true)
    rw [sm_spl, stB_self]
    rfl
  · cases h
end Go.Proofs.YtghinideddfcpaaDoor

/-
  Plain: the tokens of a text behind another one, the number of tokens, the tokens of a list of tokens.
-/
namespace Go.Proofs.YtghinideddfcpaaDoor
open Go.Ev Go.Lib

theorem decN_cong2 {n m b0 b1 b2 b3 c1 c2 c3 : Nat} (h1 : (1 < n ∧ b1 / 64 = 2) ↔ (1 < m ∧ c1 / 64 = 2)) (h2 : (1 < n ∧ b1 / 64 = 2) → ((2 < n ∧ b2 / 64 = 2) ↔ (2 < m ∧ c2 / 64 = 2)))
    (h3 : (1 < n ∧ b1 / 64 = 2) → (2 < n ∧ b2 / 64 = 2) → ((3 < n ∧ b3 / 64 = 2) ↔ (3 < m ∧ c3 / 64 = 2)))
    (e1 : (1 < n ∧ b1 / 64 = 2) → b1 = c1) (e2 : (1 < n ∧ b1 / 64 = 2) → (2 < n ∧ b2 / 64 = 2) → b2 = c2) (e3 : (1 < n ∧ b1 / 64 = 2) → (2 < n ∧ b2 / 64 = 2) → (3 < n ∧ b3 / 64 = 2) → b3 = c3) : decodeN n b0 b1 b2 b3 = decodeN m b0 c1 c2 c3 := by
  unfold decodeN
  simp only [← h1]
  by_cases q1 : 1 < n ∧ b1 / 64 = 2
  · obtain rfl := e1 q1
    simp only [← h2 q1]
    by_cases q2 : 2 < n ∧ b2 / 64 = 2
    · obtain rfl := e2 q1 q2
      simp only [← h3 q1 q2]
      by_cases q3 : 3 < n ∧ b3 / 64 = 2
      · obtain rfl := e3 q1 q2 q3
        rfl
      · simp [q3]
    · simp [q2]
  · simp [q1]
/-- A space behind a text, and what follows it, do not change its runes. -/
theorem dec_space {u : List UInt8} (hu : u ≠ []) (t : List UInt8) : decodeL (u ++ 32 :: t) = decodeL u := by
  have h0 : 0 < u.length := List.length_pos_iff.2 hu
  rw [decodeL_N, decodeL_N u]
  have hg : ∀ i, i < u.length → (u ++ 32 :: t).getD i 0 = u.getD i 0 := fun i hi => by
    rw [List.getD, List.getD, List.getElem?_append_left hi]
  have hs : (u ++ 32 :: t).getD u.length 0 = 32 := by
    rw [List.getD, List.getElem?_append_right (Nat.le_refl _), Nat.sub_self]; rfl
  have hl : (u ++ 32 :: t).length = u.length + (t.length + 1) := by rw [List.length_append]; rfl
  have hz : ∀ j, j = u.length → ¬ (((u ++ 32 :: t).getD j 0).toNat / 64 = 2) := fun j hj => by rw [hj, hs]; decide
  have key : ∀ j, j ≤ u.length → ((j < (u ++ 32 :: t).length ∧ ((u ++ 32 :: t).getD j 0).toNat / 64 = 2) ↔ (j < u.length ∧ (u.getD j 0).toNat / 64 = 2)) := fun j hj => by
    rcases Nat.lt_or_ge j u.length with h | h
    · rw [hg j h, hl]
      exact ⟨fun ⟨_, b⟩ => ⟨h, b⟩, fun ⟨_, b⟩ => ⟨by omega, b⟩⟩
    · have : j = u.length := by omega
      exact ⟨fun ⟨_, b⟩ => absurd b (hz j this), fun ⟨a, _⟩ => by omega⟩
  have in_ : ∀ j, j ≤ u.length → (j < (u ++ 32 :: t).length ∧ ((u ++ 32 :: t).getD j 0).toNat / 64 = 2) → j < u.length := fun j hj hp => ((key j hj).1 hp).1
  rw [hg 0 h0]
  refine decN_cong2 (key 1 h0) (fun p1 => key 2 (in_ 1 h0 p1)) (fun p1 p2 => key 3 (in_ 2 (in_ 1 h0 p1) p2)) (fun p1 => ?_) (fun p1 p2 => ?_) (fun p1 p2 p3 => ?_)
  · rw [hg 1 (in_ 1 h0 p1)]
  · rw [hg 2 (in_ 2 (in_ 1 h0 p1) p2)]
  · rw [hg 3 (in_ 3 (in_ 2 (in_ 1 h0 p1) p2) p3)]
/-! the tokens of what is left -/
theorem tkH_drop (s : List UInt8) (q : Nat) : ∀ (f p : Nat) (one : List UInt8) (n : Int), s.length ≤ q + p + f → (tkH [] s (q + p) one n).1 = (tkH [] (s.drop q) p one n).1
  | 0, p, one, n, h => by
    rw [tkH_end (show ¬ q + p < s.length by omega), tkH_end (show ¬ p < (s.drop q).length by rw [List.length_drop]; omega)]
  | f + 1, p, one, n, h => by
    by_cases hp : q + p < s.length
    · have hp2 : p < (s.drop q).length := by rw [List.length_drop]; omega
      have hd : decA s (q + p) = decA (s.drop q) p := by rw [decA_drop, decA_drop, List.drop_drop]
      have hw := decA_pos (s.drop q) p
      rw [tkH_step hp, tkH_step hp2, hd]
      have h1 : ∀ one n, (tkH [] s (q + p + (decA (s.drop q) p).2) one n).1 = (tkH [] (s.drop q) (p + (decA (s.drop q) p).2) one n).1 := fun one n => by
        rw [Nat.add_assoc]
        exact tkH_drop s q f _ one n (by omega)
      cases ltU ((decA (s.drop q) p).1 : Nat)
      · show _ ++ (tkH [] s (q + p + (decA (s.drop q) p).2) [] 0).1 = _ ++ (tkH [] (s.drop q) (p + (decA (s.drop q) p).2) [] 0).1
        rw [h1]
      · exact h1 _ _
    · rw [tkH_end hp, tkH_end (show ¬ p < (s.drop q).length by rw [List.length_drop]; omega)]
theorem tkH_at (s : List UInt8) (q : Nat) (one : List UInt8) (n : Int) : (tkH [] s q one n).1 = (tkH [] (s.drop q) 0 one n).1 := tkH_drop s q s.length 0 one n (by omega)
/-- The tokens of bytes, some token begun. -/
def tkL (s : List UInt8) (one : List UInt8) (n : Int) : List (List UInt8) := (tkH [] s 0 one n).1
theorem tkL_step {s : List UInt8} (hs : s ≠ []) (one : List UInt8) (n : Int) : tkL s one n = bif ltU ((decodeL s).1 : Nat) then tkL (s.drop (decodeL s).2) (one ++ encA (toLowerU ((decodeL s).1 : Nat))) (n + 1)
    else (bif inR n 3 20 then [one] else []) ++ tkL (s.drop (decodeL s).2) [] 0 := by
  have h0 : 0 < s.length := List.length_pos_iff.2 hs
  have hd : decA s 0 = decodeL s := by rw [decA_drop, List.drop_zero]
  unfold tkL
  rw [tkH_step h0, hd, Nat.zero_add]
  cases ltU ((decodeL s).1 : Nat)
  · show _ ++ (tkH [] s (decodeL s).2 [] 0).1 = _
    rw [tkH_at s (decodeL s).2]
    rfl
  · exact tkH_at s (decodeL s).2 _ _
theorem tkL_nil (one : List UInt8) (n : Int) : tkL [] one n = [] := by
  unfold tkL
  rw [tkH_end (by simp)]
theorem tkS_L (s : List UInt8) : tkS [] s = tkL (s ++ [32]) [] 0 := rfl
theorem tkL_space (t one : List UInt8) (n : Int) : tkL (32 :: t) one n = (bif inR n 3 20 then [one] else []) ++ tkL t [] 0 := by
  have hd : decodeL (32 :: t) = (32, 1) := decodeL_ascii 32 t (by decide)
  rw [tkL_step (by simp), hd, lt_space]
  rfl
theorem decodeL_fit {u : List UInt8} (hu : u ≠ []) : 1 ≤ (decodeL u).2 ∧ (decodeL u).2 ≤ u.length := ⟨by have := decodeL_width u; omega, decodeL_le u hu⟩
/-- A text, a space, another text: the tokens of the one, those of the other. -/
theorem tkL_both (t : List UInt8) : ∀ (f : Nat) (u one : List UInt8) (n : Int), u.length ≤ f → tkL (u ++ 32 :: t) one n = tkL (u ++ [32]) one n ++ tkL t [] 0
  | f, [], one, n, _ => by
    rw [List.nil_append, List.nil_append, tkL_space, tkL_space, tkL_nil, List.append_nil]
  | f + 1, c :: u, one, n, h => by
    obtain ⟨h1, h2⟩ := decodeL_fit (u := c :: u) (by simp)
    have hd : ((c :: u).drop (decodeL (c :: u)).2).length ≤ f := by rw [List.length_drop]; simp at h ⊢; omega
    rw [tkL_step (by simp), tkL_step (s := (c :: u) ++ [32]) (by simp), dec_space (by simp), dec_space (by simp), List.drop_append_of_le_length h2, List.drop_append_of_le_length h2]
    rw [tkL_both t f _ _ _ hd, tkL_both t f _ _ _ hd]
    cases ltU ((decodeL (c :: u)).1 : Nat)
    · exact (List.append_assoc _ _ _).symm
    · rfl
theorem tkS_both (a b : List UInt8) : tkS [] (a ++ 32 :: b) = tkS [] a ++ tkS [] b := by
  rw [tkS_L, tkS_L, tkS_L, List.append_assoc]
  exact tkL_both (b ++ [32]) a.length a [] 0 (Nat.le_refl _)
/-- There are not many. -/
theorem tkL_len : ∀ (f : Nat) (s one : List UInt8) (n : Int), s.length ≤ f → 0 ≤ n → (4 * (tkL s one n).length : Int) ≤ s.length + n
  | f, [], one, n, _, h => by rw [tkL_nil]; simp; exact h
  | f + 1, c :: s, one, n, h, hn => by
    obtain ⟨h1, h2⟩ := decodeL_fit (u := c :: s) (by simp)
    have hd : ((c :: s).drop (decodeL (c :: s)).2).length ≤ f := by rw [List.length_drop]; simp at h ⊢; omega
    have hl : ((c :: s).drop (decodeL (c :: s)).2).length = (c :: s).length - (decodeL (c :: s)).2 := List.length_drop
    rw [tkL_step (by simp)]
    cases ltU ((decodeL (c :: s)).1 : Nat)
    · have ih := tkL_len f _ [] 0 hd (Int.le_refl _)
      rw [cond_false, List.length_append]
      cases hr : inR n 3 20
      · simp only [cond_false, List.length_nil]
        omega
      · have := (inR_spec hr).1
        simp only [cond_true, List.length_singleton]
        omega
    · have ih := tkL_len f _ (one ++ encA (toLowerU ((decodeL (c :: s)).1 : Nat))) (n + 1) hd (by omega)
      rw [cond_true]
      omega
theorem tkS_len (s : List UInt8) : 4 * (tkS [] s).length ≤ s.length + 1 := by
  have := tkL_len _ (s ++ [32]) [] 0 (Nat.le_refl _) (Int.le_refl _)
  rw [← tkS_L] at this
  simp at this
  omega
/-! sorted without repetitions -/
theorem D_ss (T : List (List UInt8)) : SS (compact (srtS T)) ∧ ∀ x, x ∈ compact (srtS T) ↔ x ∈ T := by
  obtain ⟨h1, h2⟩ := cmp_ss (srt_sorted T)
  exact ⟨h1, fun x => by rw [h2 x, srt_mem]⟩
theorem fstL_all {T : List (List UInt8)} (h : T.length ≤ 1000) : fstL T = compact (srtS T) := by
  unfold fstL
  refine List.take_of_length_le ?_
  have h1 := Lib.compact_length_le (srtS T)
  have h2 : (srtS T).length = T.length := List.length_mergeSort _
  omega
theorem fstL_both {A B : List (List UInt8)} (ha : A.length ≤ 1000) (hb : B.length ≤ 1000) : fstL (fstL A ++ fstL B) = fstL (A ++ B) := by
  rw [fstL_all ha, fstL_all hb]
  unfold fstL
  congr 1
  refine SS.ext (D_ss _).1 (D_ss _).1 fun x => ?_
  rw [(D_ss _).2, (D_ss _).2, List.mem_append, List.mem_append, (D_ss _).2, (D_ss _).2]
theorem fstL_ss (T : List (List UInt8)) : SS (fstL T) ∧ (fstL T).length ≤ 1000 ∧ ∀ x ∈ fstL T, x ∈ T := by
  unfold fstL
  refine ⟨(D_ss T).1.sublist (List.take_sublist _ _), by rw [List.length_take]; omega, fun x hx => ((D_ss T).2 x).1 (List.mem_of_mem_take hx)⟩
theorem fstL_id {l : List (List UInt8)} (h : SS l) (hl : l.length ≤ 1000) : fstL l = l := by
  rw [fstL_all hl]
  exact SS.ext (D_ss l).1 h fun x => (D_ss l).2 x
theorem splL_fst {s : List UInt8} (h : ¬ (s.length : Int) > 4000) : splL s = fstL (tkS [] s) := by
  unfold splL
  rw [decide_eq_false h, cond_false, tk_main]
theorem spl_big {s : List UInt8} (h : (s.length : Int) > 4000) : splL s = [] ∧ splC s = 1 ∧ splI s = -1 := by
  unfold splL splC splI
  rw [decide_eq_true h]
  exact ⟨rfl, rfl, rfl⟩
theorem spl_fits {s : List UInt8} (h : ¬ (s.length : Int) > 4000) : splC s = 0 := by
  unfold splC
  rw [decide_eq_false h]
  rfl
/-! letters and digits of ASCII -/
def asc (s : List UInt8) : Prop := ∀ b ∈ s, b.toNat < 128
def lowB (b : UInt8) : UInt8 := UInt8.ofNat (toLowerU (b.toNat : Int)).toNat
def ascOK (m : Nat) : Bool := encA (toLowerU (m : Int)) == [lowB (UInt8.ofNat m)] && (decide ((lowB (UInt8.ofNat m)).toNat < 128) && (!ltU (m : Int) || (ltU ((lowB (UInt8.ofNat m)).toNat : Int) && lowB (lowB (UInt8.ofNat m)) == lowB (UInt8.ofNat m))))
theorem asc_all : (List.range 128).all ascOK = true := by kernel_rfl
theorem asc_of {b : UInt8} (h : b.toNat < 128) : encA (toLowerU (b.toNat : Int)) = [lowB b] ∧ (lowB b).toNat < 128 ∧ (ltU (b.toNat : Int) = true → ltU ((lowB b).toNat : Int) = true ∧ lowB (lowB b) = lowB b) := by
  have h1 := List.all_eq_true.1 asc_all b.toNat (List.mem_range.2 h)
  unfold ascOK at h1
  rw [show UInt8.ofNat b.toNat = b from by simp] at h1
  simp only [Bool.and_eq_true, beq_iff_eq, decide_eq_true_eq, Bool.or_eq_true, Bool.not_eq_true'] at h1
  obtain ⟨a1, a2, a3⟩ := h1
  refine ⟨a1, a2, fun hl => ?_⟩
  rcases a3 with h | h
  · rw [hl] at h; cases h
  · exact h
/-- A token of ASCII. -/
def TkA (x : List UInt8) : Prop := (∀ b ∈ x, b.toNat < 128 ∧ ltU (b.toNat : Int) = true ∧ lowB b = b) ∧ inR x.length 3 20 = true
theorem tkL_one {c : UInt8} (h : c.toNat < 128) (s one : List UInt8) (n : Int) : tkL (c :: s) one n = bif ltU (c.toNat : Int) then tkL s (one ++ [lowB c]) (n + 1) else (bif inR n 3 20 then [one] else []) ++ tkL s [] 0 := by
  have hd : decodeL (c :: s) = (c.toNat, 1) := decodeL_ascii c s h
  rw [tkL_step (by simp), hd, (asc_of h).1]
  rfl
theorem tkL_asc : ∀ (s one : List UInt8) (n : Int), asc s → (∀ b ∈ one, b.toNat < 128 ∧ ltU (b.toNat : Int) = true ∧ lowB b = b) → n = one.length → ∀ x ∈ tkL s one n, TkA x
  | [], _, _, _, _, _ => by rw [tkL_nil]; intro x hx; cases hx
  | c :: s, one, n, hs, ho, hn => by
    have hc := hs c (by simp)
    have hs' : asc s := fun b hb => hs b (by simp [hb])
    rw [tkL_one hc]
    obtain ⟨_, a2, a3⟩ := asc_of hc
    cases hl : ltU (c.toNat : Int)
    · intro x hx
      rw [cond_false] at hx
      rcases List.mem_append.1 hx with h | h
      · cases hr : inR n 3 20
        · rw [hr] at h; cases h
        · rw [hr] at h
          simp at h
          subst h
          exact ⟨ho, by rw [← hn]; exact hr⟩
      · exact tkL_asc s [] 0 hs' (fun b hb => by cases hb) rfl x h
    · rw [cond_true]
      refine tkL_asc s _ _ hs' (fun b hb => ?_) (by rw [List.length_append, List.length_singleton, hn]; omega)
      rcases List.mem_append.1 hb with h | h
      · exact ho b h
      · simp at h
        subst h
        exact ⟨a2, (a3 hl).1, (a3 hl).2⟩
theorem tkS_asc {s : List UInt8} (h : asc s) : ∀ x ∈ tkS [] s, TkA x := by
  rw [tkS_L]
  refine tkL_asc _ [] 0 (fun b hb => ?_) (fun b hb => by cases hb) rfl
  rcases List.mem_append.1 hb with h' | h'
  · exact h b h'
  · simp at h'; subst h'; decide
theorem tkL_word (t : List UInt8) : ∀ (x one : List UInt8) (n : Int), (∀ b ∈ x, b.toNat < 128 ∧ ltU (b.toNat : Int) = true ∧ lowB b = b) → tkL (x ++ t) one n = tkL t (one ++ x) (n + x.length)
  | [], one, n, _ => by simp
  | c :: x, one, n, h => by
    obtain ⟨h1, h2, h3⟩ := h c (by simp)
    rw [List.cons_append, tkL_one h1, h2, cond_true, h3, tkL_word t x _ _ fun b hb => h b (by simp [hb])]
    simp only [List.append_assoc, List.singleton_append, List.length_cons]
    congr 1
    omega
theorem tk_joined : ∀ (r : List (List UInt8)) (x : List UInt8), TkA x → (∀ y ∈ r, TkA y) → tkL (x ++ (joinTail [32] r ++ [32])) [] 0 = x :: r
  | [], x, hx, _ => by
    rw [tkL_word _ x [] 0 hx.1]
    show tkL [32] _ _ = _
    rw [tkL_space, tkL_nil, List.nil_append, Int.zero_add, hx.2]
    rfl
  | y :: r, x, hx, hr => by
    have e : joinTail [32] (y :: r) ++ [32] = 32 :: (y ++ (joinTail [32] r ++ [32])) := by
      unfold joinTail
      simp
    rw [e, tkL_word _ x [] 0 hx.1, tkL_space, tk_joined r y (hr y (by simp)) fun z hz => hr z (by simp [hz]), List.nil_append, Int.zero_add, hx.2]
    rfl
theorem tkS_joined : ∀ (l : List (List UInt8)), (∀ y ∈ l, TkA y) → tkS [] (join l [32]) = l
  | [], _ => by
    rw [tkS_L]
    show tkL [32] [] 0 = []
    rw [tkL_space, tkL_nil]
    rfl
  | x :: r, h => by
    rw [tkS_L, join_cons, List.append_assoc]
    exact tk_joined r x (h x (by simp)) fun y hy => h y (by simp [hy])
end Go.Proofs.YtghinideddfcpaaDoor

namespace Go.Proofs.YtghinideddfcpaaDoor
open Go.Ev Go.Lib

noncomputable def G5 : Env := { pure := [(6, ofT F6), (8, ofT F8), (9, ofT F9), (10, ofT F10)] }
theorem g5 : GOK Tryd.prog G5 := GOK.also (GOK.also (GOK.also (GOK.also g0 ok10) ok9) ok8) ok6
theorem law5 (a b : List UInt8) (ha : a.length ≤ 140737488355328) (hb : b.length ≤ 140737488355328) : evF Tryd.prog G5 [] Tryd.f5 AV [.str a, .str b] some = some (.bool true) := by
  refine Eq.trans (b := bif decide ((↑a.length : Int) > (4000 : Int)) || txB a && decide ((tkF (fldW a)).length ≤ (1000000 : Nat)) then bif decide ((↑b.length : Int) > (4000 : Int)) || txB b && decide ((tkF (fldW b)).length ≤ (1000000 : Nat)) then bif lenB (a.length + ([(32 : UInt8)] : List UInt8).length) then bif lenB ((a ++ ([(32 : UInt8)] : List UInt8)).length + b.length) then bif decide ((↑(a ++ ([(32 : UInt8)] : List UInt8) ++ b).length : Int) > (4000 : Int)) || txB (a ++ ([(32 : UInt8)] : List UInt8) ++ b) && decide ((tkF (fldW (a ++ ([(32 : UInt8)] : List UInt8) ++ b))).length ≤ (1000000 : Nat)) then bif splC a != (0 : Int) then bif splC (a ++ ([(32 : UInt8)] : List UInt8) ++ b) != (0 : Int) then some (AV.bool true) else bif splC a == (0 : Int) then bif splC b == (0 : Int) then some (AV.bool true) else some (AV.bool false) else some (AV.bool false) else bif splC b != (0 : Int) then bif splC (a ++ ([(32 : UInt8)] : List UInt8) ++ b) != (0 : Int) then some (AV.bool true) else bif splC a == (0 : Int) then bif splC b == (0 : Int) then some (AV.bool true) else some (AV.bool false) else some (AV.bool false) else bif splC (a ++ ([(32 : UInt8)] : List UInt8) ++ b) != (0 : Int) then bif splC (a ++ ([(32 : UInt8)] : List UInt8) ++ b) != (0 : Int) then some (AV.bool true) else bif splC a == (0 : Int) then bif splC b == (0 : Int) then some (AV.bool true) else some (AV.bool false) else some (AV.bool false) else bif roomB (List.map AV.str (splL a)).length (Tryd.prog.bytesOf (9 : Nat)) then bif roomB ((List.map AV.str (splL a)).length + (List.map AV.str (splL b)).length) (Tryd.prog.bytesOf (9 : Nat)) then bif decide ((List.map AV.str (splL a) ++ List.map AV.str (splL b)).length ≤ (100000 : Nat)) then bif small (List.map AV.str (splL (a ++ ([(32 : UInt8)] : List UInt8) ++ b))).length then bif stB (List.map AV.str (splL (a ++ ([(32 : UInt8)] : List UInt8) ++ b))) (List.take (1000 : Nat) (allD [] (List.map AV.str (splL a) ++ List.map AV.str (splL b)))) then some (AV.bool true) else some (AV.bool false) else none else none else none else none else none else none else none else none else none) (by kernel_rfl) ?_
  have hX : (a ++ ([32] : List UInt8) ++ b).length = a.length + 1 + b.length := by rw [List.length_append, List.length_append]; rfl
  have h0 : (a ++ ([32] : List UInt8)).length = a.length + 1 := by rw [List.length_append]; rfl
  refine Eq.trans (cond_t spl_ok) (Eq.trans (cond_t spl_ok) (Eq.trans (cond_t (lenB_t (by show a.length + 1 ≤ _; omega))) (Eq.trans (cond_t (lenB_t (by omega))) (Eq.trans (cond_t spl_ok) ?_))))
  by_cases h1 : (a.length : Int) > 4000
  · have h3 : ((a ++ ([32] : List UInt8) ++ b).length : Int) > 4000 := by omega
    rw [(spl_big h1).2.1, (spl_big h3).2.1]; rfl
  · by_cases h2 : (b.length : Int) > 4000
    · have h3 : ((a ++ ([32] : List UInt8) ++ b).length : Int) > 4000 := by omega
      rw [spl_fits h1, (spl_big h2).2.1, (spl_big h3).2.1]; rfl
    · rw [spl_fits h1, spl_fits h2]
      by_cases h3 : ((a ++ ([32] : List UInt8) ++ b).length : Int) > 4000
      · rw [(spl_big h3).2.1]; rfl
      · rw [spl_fits h3]
        have ea := splL_fst h1
        have eb := splL_fst h2
        have ez : splL (a ++ ([32] : List UInt8) ++ b) = fstL (tkS [] a ++ tkS [] b) := by
          rw [splL_fst h3, show a ++ ([32] : List UInt8) ++ b = a ++ 32 :: b from by simp, tkS_both]
        have la := (fstL_ss (tkS [] a)).2.1
        have lb := (fstL_ss (tkS [] b)).2.1
        have lz := (fstL_ss (tkS [] a ++ tkS [] b)).2.1
        have ta := tkS_len a
        have tb := tkS_len b
        refine Eq.trans (cond_f rfl) (Eq.trans (cond_f rfl) (Eq.trans (cond_f rfl) (Eq.trans (cond_t (roomB_small (by rw [List.length_map, ea]; omega) by9)) (Eq.trans (cond_t (roomB_small (by rw [List.length_map, List.length_map, ea, eb]; omega) by9)) (Eq.trans (cond_t (decide_eq_true (by rw [List.length_append, List.length_map, List.length_map, ea, eb]; omega))) (Eq.trans (cond_t (small_t (by rw [List.length_map, ez]; omega))) (cond_t ?_)))))))
        rw [ea, eb, ez, ← List.map_append, dif_fst, fstL_both (by omega) (by omega)]
        exact stB_self _
theorem okL5 : SumOK Tryd.prog 5 (evF Tryd.prog G5 [] Tryd.f5) := sum0 g5 Tryd.func5 (by kernel_rfl) fun _ _ _ _ h => h

theorem spec5 (H : Type) : ∀ ds : List (DataW H), ds.length = Tryd.f5.params.size → Rows.tokensOfBothSpec.fn H ds = { results := [.lit (.bool true)], args := ds }
  | [_, _], _ => rfl

set_option maxRecDepth 100000 in
theorem lifted5 (os : Os) (started : os.Started) (H : Type) (enc : TypeId × Value → H) :
    ReturnsInHanded {} Tryd.checked os 5 .any (fun w args => (Rows.tokensOfBothSpec.pre enc Tryd.prog Tryd.f5 Rows.tokensOfBothRow.domain false w args ∧ laidMetH Tryd.prog Rows.tokensOfBothRow.laid w) ∧ sizedMet enc Tryd.prog Tryd.f5 (OpenSpec.ofChange Rows.tokensOfBothSpec) false w args)
      (Rows.tokensOfBothSpec.post enc Tryd.prog Tryd.f5 false true false false) := by
  refine returnsInHanded_of_change_and (C := Tryd.checked) (X := fun w _ => laidMetH Tryd.prog Rows.tokensOfBothRow.laid w) (fun _ _ _ hh h => h.of_heap hh) own started (by kernel_rfl) Tryd.func5
    (ChangeSpec.witness_shaped (enc := enc) (C := Tryd.checked) (os := os) (X := fun w _ => laidMetH Tryd.prog Rows.tokensOfBothRow.laid w) false (World.laidAll Tryd.prog os Rows.tokensOfBothRow.laid) #[.string ⟨#[]⟩, .string ⟨#[]⟩] 8 (World.laidAll_os _ _ _)
      (World.shaped_of_ZipB (by kernel_rfl) (by kernel_rfl)) (by kernel_rfl) (by kernel_rfl) (by kernel_rfl)
      (by rw [MakeChecks.laidMetH_plain _ _ _ (by kernel_rfl)]; exact laidMet_laidAll _ (by kernel_rfl) (by kernel_rfl))) ?_
  intro W base args ds gs before hval hW _ hz hx _
  refine contract_of (bk H) (n := 12) (tb := 4) (F := evF Tryd.prog G5 [] Tryd.f5) (by kernel_rfl) (by kernel_rfl) (by kernel_rfl) rfl (by kernel_rfl) (by kernel_rfl) (spec5 H) (okL5) (fun avs hg => ?_) hval hz hW (glb_of hx)
  have hh : hasAll [.str, .str] avs = true := hg.has
  obtain ⟨v0, cs, rfl, h0, hh⟩ := hasAll_cons hh
  obtain ⟨v1, cs, rfl, h1, hh⟩ := hasAll_cons hh
  obtain rfl := hasAll_nil hh
  obtain ⟨a, rfl⟩ := has_str h0
  obtain ⟨b, rfl⟩ := has_str h1
  have ha := (hg.fit (.str a) (by simp)).str_inv
  have hb := (hg.fit (.str b) (by simp)).str_inv
  exact law5 a b (by omega) (by omega)

theorem row_holds5 : Rows.TokensOfBothSaid :=
  OpenClaim.holds_of_wide 5 Tryd.f5 rfl rfl rfl rfl rfl rfl rfl ⟨rfl, rfl, rfl, rfl, rfl⟩ rfl rfl rfl rfl rfl (by kernel_rfl) Tryd.func5 (by kernel_rfl)
    (of_decide_eq_true (by kernel_rfl)) (by unfold Func.isWrapper; first | (rw [if_pos (by decide +kernel)]; kernel_rfl) | (rw [if_neg (by decide +kernel)]; exact ⟨rfl, rfl⟩))
    (fun os started H enc _ => lifted5 os started H enc)

theorem tokens_of_both : Rows.TokensOfBothCardSaid :=
  Claim7.holds_tied_plain_at .later [] [.data, .data, .pinned, .pinned, .pinned, .pinned] true (true, "472318986fd433a8a1398d46bb6cd759247b45fa375fd29bcc0512f3d0138014") false row_holds5 (fun _ h => by cases h) (by kernel_rfl) (fun _ h => by cases h) tokensOfBoth_row_tie rfl ⟨rfl, rfl⟩ (by kernel_rfl) rfl
    (fun f fn hf hfn => by
      obtain rfl : f = 5 := Option.some.inj ((show Tryd.prog.funcNamed "posthouse/posthouselaw5.TokensOfBoth" = some 5 by kernel_rfl).symm.trans hf) |>.symm
      obtain rfl : fn = Tryd.f5 := (Option.some.inj (Tryd.func5.symm.trans hfn)).symm
      exact ⟨by kernel_rfl, fun j t ht => by
        have hm : t ∈ Tryd.f5.params.toList := Array.mem_def.1 (Array.mem_of_getElem? ht)
        have hall : (Tryd.f5.params.toList.all fun u => !Tryd.prog.wantsStandIn u) = true := by kernel_rfl
        exact (show Tryd.prog.wantsStandIn t = false by simpa using List.all_eq_true.1 hall t hm)⟩)
    (by kernel_rfl)

end Go.Proofs.YtghinideddfcpaaDoor
