/-
  Plain: texts cut and joined, hexadecimal digits, checksums.
-/
import Derived.Test.YthdhfmdhjanoaaaGreatDoorTsJ
import Derived.Test.YthdhfmdhjanoaaaGreatDoorEvY
import Derived.RangeFuncIn
import Derived.Lib.Split
import Derived.Lib.Join

namespace Go.Proofs.YthdhfmdhjanoaaaGreatDoor
open Go.Ev
noncomputable def G24 : Env := { pure := [(48, ofT F48), (53, ofT F53), (54, ofT F54), (41, evF Tryz.prog G0 [] Tryz.f41), (43, evF Tryz.prog G0 [] Tryz.f43), (47, evF Tryz.prog G0 [] Tryz.f47)] }
theorem g24 : GOK Tryz.prog G24 := GOK.also (GOK.also (GOK.also (GOK.also (GOK.also (GOK.also g0 (inl g0 Tryz.func47 (by kernel_rfl))) (inl g0 Tryz.func43 (by kernel_rfl))) (inl g0 Tryz.func41 (by kernel_rfl))) ok54) ok53) ok48
noncomputable def b24 : Code := ((Tryz.f24.body.map loopsOf).getD []).headD .skip
noncomputable def c24 : Code := (((Tryz.f24.body.map loopsOf).getD []).tail).headD .skip
def dn (p : Nat → Bool) : Nat → Option Nat
  | 0 => none
  | n + 1 => bif p n then some n else dn p n
def uB (e : AV) : Bool := (e.cells.headD .unk).toBool
def okV (e : AV) : Bool := decide ((fN e).length ≤ 60 ∧ (fV e).length ≤ 4000)
def frB (es us : List AV) (n : List UInt8) (i : Nat) : Bool := !uB (us.getD i .unk) && eqF (fN (es.getD i .unk)) n
def fldE (e : AV) : List AV := bytesAV (fldF (fN e) (fV e))
def L24b : List AV → List (Option Row) → Tr LOut
  | [.slv (.agg [.str, .str]) es, .ptr 1 0, .own 386, .own 901, .str n, .int .i64 i, .slv .str ns, .int .i64 m, .int .i64 q], [some (.box false [.int .i64 0, .int .i64 0]), some (.arr false .bool e4 us none), some (.arr false (.int .u8) e out none)] =>
    .gd (decide (-1 ≤ i ∧ i < es.length ∧ us.length = es.length ∧ es.length ≤ 100 ∧ out.length ≤ 10000000 ∧ e = 5) && (small n.length && es.all okV)) (.br (dn (frB es us n) (i + 1).toNat).isSome
      (.leaf (.exit 2, [.slv (.agg [.str, .str]) es, .ptr 1 0, .own 386, .own 901, .str n, .int .i64 ((dn (frB es us n) (i + 1).toNat).getD 0 : Nat), .slv .str ns, .int .i64 m, .int .i64 q], [some (.box false [.int .i64 0, .int .i64 0]), some (.arr false .bool e4 (us.set ((dn (frB es us n) (i + 1).toNat).getD 0) (.bool true)) none), some (.arr false (.int .u8) e (out ++ fldE (es.getD ((dn (frB es us n) (i + 1).toNat).getD 0) .unk)) none)]))
      (.leaf (.exit 2, [.slv (.agg [.str, .str]) es, .ptr 1 0, .own 386, .own 901, .str n, .int .i64 (-1), .slv .str ns, .int .i64 m, .int .i64 q], [some (.box false [.int .i64 0, .int .i64 0]), some (.arr false .bool e4 us none), some (.arr false (.int .u8) e out none)])))
  | _, _ => .no
def l24b : Ev.Loop := ⟨{ len := 64, slots := [0, 5, 7, 8, 10, 11, 24, 25, 26], rows := [1, 386, 901], homes := [(8, 901, 5)] }, ofL L24b⟩
def μ24b (vs : List AV) (_ : List (Option Row)) : Nat := match vs with
  | [_, _, _, _, _, .int _ i, _, _, _] => (i + 1).toNat
  | _ => 0
def selF (es : List AV) : List AV → List AV → List AV × List AV
  | [], us => ([], us)
  | n :: ns, us => bif (dn (frB es us (sE n)) es.length).isSome then
      (fldE (es.getD ((dn (frB es us (sE n)) es.length).getD 0) .unk) ++ (selF es ns (us.set ((dn (frB es us (sE n)) es.length).getD 0) (.bool true))).1, (selF es ns (us.set ((dn (frB es us (sE n)) es.length).getD 0) (.bool true))).2)
    else selF es ns us
def okN (e : AV) : Bool := isS e && small (sE e).length
def L24 : List AV → List (Option Row) → Tr LOut
  | [.slv (.agg [.str, .str]) es, .ptr 1 0, .own 386, .own 900, .slv .str ns, .int .i64 m, .int .i64 q], [some (.box false [.int .i64 0, .int .i64 0]), some (.arr false .bool e4 us none), some (.arr false (.int .u8) e out none)] =>
    .gd (cnt m q ns.length && (decide (us.length = es.length ∧ es.length ≤ 100 ∧ out.length + (ns.length - q.toNat) * 10000 ≤ 10000000 ∧ e = 5) && (ns.all okN && es.all okV)))
      (.leaf (.exit 0, [.slv (.agg [.str, .str]) es, .ptr 1 0, .own 386, .own 900, .slv .str ns, .int .i64 m, .int .i64 ns.length], [some (.box false [.int .i64 0, .int .i64 0]), some (.arr false .bool e4 (selF es (ns.drop q.toNat) us).2 none), some (.arr false (.int .u8) e (out ++ (selF es (ns.drop q.toNat) us).1) none)]))
  | _, _ => .no
def l24 : Ev.Loop := ⟨{ len := 64, slots := [0, 5, 7, 8, 24, 25, 26], rows := [1, 386, 900], homes := [(8, 900, 5)] }, ofL L24⟩
def μ24 (vs : List AV) (_ : List (Option Row)) : Nat := match vs with
  | [_, _, _, _, _, .int _ n, .int _ i] => (n - i).toNat
  | _ => 0
theorem dn_lt {p : Nat → Bool} : ∀ {n q : Nat}, dn p n = some q → q < n
  | 0, _, h => by cases h
  | n + 1, q, h => by
    unfold dn at h
    cases hp : p n
    · rw [hp] at h; have := dn_lt (n := n) h; omega
    · rw [hp] at h; cases h; omega
theorem fldF_len (n v : List UInt8) : (fldF n v).length ≤ n.length + v.length + 3 := by
  have hl : (lowS n).length = n.length := by unfold lowS; rw [List.length_map]
  have hq := sqF_len v
  unfold fldF
  rw [List.length_append, List.length_append, List.length_append]
  show _ + 1 + _ + 2 ≤ _
  omega
theorem loop24b : LoopOK Tryz.prog G24 [(9, l24), (12, l24b)] c24 l24b := by
  refine loopT g24.natOK rfl (KOK.nil (by kernel_rfl)) μ24b (fun ρ vs rs k r h => ?_)
  unfold L24b at h
  split at h
  · rename_i es n i ns m q e4 us e out
    obtain ⟨hc, hk⟩ := gd_some h
    simp only [Bool.and_eq_true] at hc
    obtain ⟨hb0, hsn, hall⟩ := hc
    obtain ⟨h1, h2, h3, h4, h5, rfl⟩ := of_decide_eq_true hb0
    clear hb0
    refine Eq.trans (b := bif decide (i ≥ (0 : Int)) then bif inb i us.length then bif decide (i.toNat < us.length) then bif !(uB (us.getD i.toNat AV.unk)) then bif inb i es.length then bif small (fN (es.getD i.toNat AV.unk)).length && small n.length then bif eqF (fN (es.getD i.toNat AV.unk)) n then bif inb i us.length then bif decide (i.toNat < us.length) then bif inb i es.length then bif decide ((fN (es.getD i.toNat AV.unk)).length ≤ (100000000000 : Nat) ∧ (fV (es.getD i.toNat AV.unk)).length ≤ (100000000000 : Nat)) then bif roomB (out.length + (bytesAV (fldF (fN (es.getD i.toNat AV.unk)) (fV (es.getD i.toNat AV.unk)))).length) (Tryz.prog.bytesOf (5 : Nat)) then k (Ex.exit (2 : Nat)) [AV.slv (Sh.agg [Sh.str, Sh.str]) es, AV.ptr (1 : Nat) (0 : Nat), AV.own (386 : Nat), AV.own (901 : Nat), AV.str n, AV.int IntKind.i64 i, AV.slv Sh.str ns, AV.int IntKind.i64 m, AV.int IntKind.i64 q] [some (Row.box false [AV.int IntKind.i64 (0 : Int), AV.int IntKind.i64 (0 : Int)]), some (Row.arr false Sh.bool e4 (us.set i.toNat (mkAV Sh.bool [AV.bool true])) none), some (Row.arr false (Sh.int IntKind.u8) (5 : Nat) (out ++ bytesAV (fldF (fN (es.getD i.toNat AV.unk)) (fV (es.getD i.toNat AV.unk)))) none)] else none else none else none else none else none else bif decide ((IntKind.i64.wrap (i - (1 : Int)) + (1 : Int)).toNat < (i + (1 : Int)).toNat) then bif decide ((-1 : Int) ≤ IntKind.i64.wrap (i - (1 : Int)) ∧ IntKind.i64.wrap (i - (1 : Int)) < (↑es.length : Int) ∧ us.length = es.length ∧ es.length ≤ (100 : Nat) ∧ out.length ≤ (10000000 : Nat) ∧ (5 : TypeId) = (5 : TypeId)) && (small n.length && es.all okV) then bif (dn (frB es us n) (IntKind.i64.wrap (i - (1 : Int)) + (1 : Int)).toNat).isSome then k (Ex.exit (2 : Nat)) [AV.slv (Sh.agg [Sh.str, Sh.str]) es, AV.ptr (1 : Nat) (0 : Nat), AV.own (386 : Nat), AV.own (901 : Nat), AV.str n, AV.int IntKind.i64 (↑((dn (frB es us n) (IntKind.i64.wrap (i - (1 : Int)) + (1 : Int)).toNat).getD (0 : Nat)) : Int), AV.slv Sh.str ns, AV.int IntKind.i64 m, AV.int IntKind.i64 q] [some (Row.box false [AV.int IntKind.i64 (0 : Int), AV.int IntKind.i64 (0 : Int)]), some (Row.arr false Sh.bool e4 (us.set ((dn (frB es us n) (IntKind.i64.wrap (i - (1 : Int)) + (1 : Int)).toNat).getD (0 : Nat)) (AV.bool true)) none), some (Row.arr false (Sh.int IntKind.u8) (5 : Nat) (out ++ fldE (es.getD ((dn (frB es us n) (IntKind.i64.wrap (i - (1 : Int)) + (1 : Int)).toNat).getD (0 : Nat)) AV.unk)) none)] else k (Ex.exit (2 : Nat)) [AV.slv (Sh.agg [Sh.str, Sh.str]) es, AV.ptr (1 : Nat) (0 : Nat), AV.own (386 : Nat), AV.own (901 : Nat), AV.str n, AV.int IntKind.i64 (-1 : Int), AV.slv Sh.str ns, AV.int IntKind.i64 m, AV.int IntKind.i64 q] [some (Row.box false [AV.int IntKind.i64 (0 : Int), AV.int IntKind.i64 (0 : Int)]), some (Row.arr false Sh.bool e4 us none), some (Row.arr false (Sh.int IntKind.u8) (5 : Nat) out none)] else none else none else none else none else bif decide ((IntKind.i64.wrap (i - (1 : Int)) + (1 : Int)).toNat < (i + (1 : Int)).toNat) then bif decide ((-1 : Int) ≤ IntKind.i64.wrap (i - (1 : Int)) ∧ IntKind.i64.wrap (i - (1 : Int)) < (↑es.length : Int) ∧ us.length = es.length ∧ es.length ≤ (100 : Nat) ∧ out.length ≤ (10000000 : Nat) ∧ (5 : TypeId) = (5 : TypeId)) && (small n.length && es.all okV) then bif (dn (frB es us n) (IntKind.i64.wrap (i - (1 : Int)) + (1 : Int)).toNat).isSome then k (Ex.exit (2 : Nat)) [AV.slv (Sh.agg [Sh.str, Sh.str]) es, AV.ptr (1 : Nat) (0 : Nat), AV.own (386 : Nat), AV.own (901 : Nat), AV.str n, AV.int IntKind.i64 (↑((dn (frB es us n) (IntKind.i64.wrap (i - (1 : Int)) + (1 : Int)).toNat).getD (0 : Nat)) : Int), AV.slv Sh.str ns, AV.int IntKind.i64 m, AV.int IntKind.i64 q] [some (Row.box false [AV.int IntKind.i64 (0 : Int), AV.int IntKind.i64 (0 : Int)]), some (Row.arr false Sh.bool e4 (us.set ((dn (frB es us n) (IntKind.i64.wrap (i - (1 : Int)) + (1 : Int)).toNat).getD (0 : Nat)) (AV.bool true)) none), some (Row.arr false (Sh.int IntKind.u8) (5 : Nat) (out ++ fldE (es.getD ((dn (frB es us n) (IntKind.i64.wrap (i - (1 : Int)) + (1 : Int)).toNat).getD (0 : Nat)) AV.unk)) none)] else k (Ex.exit (2 : Nat)) [AV.slv (Sh.agg [Sh.str, Sh.str]) es, AV.ptr (1 : Nat) (0 : Nat), AV.own (386 : Nat), AV.own (901 : Nat), AV.str n, AV.int IntKind.i64 (-1 : Int), AV.slv Sh.str ns, AV.int IntKind.i64 m, AV.int IntKind.i64 q] [some (Row.box false [AV.int IntKind.i64 (0 : Int), AV.int IntKind.i64 (0 : Int)]), some (Row.arr false Sh.bool e4 us none), some (Row.arr false (Sh.int IntKind.u8) (5 : Nat) out none)] else none else none else none else none else k (Ex.exit (2 : Nat)) [AV.slv (Sh.agg [Sh.str, Sh.str]) es, AV.ptr (1 : Nat) (0 : Nat), AV.own (386 : Nat), AV.own (901 : Nat), AV.str n, AV.int IntKind.i64 i, AV.slv Sh.str ns, AV.int IntKind.i64 m, AV.int IntKind.i64 q] [some (Row.box false [AV.int IntKind.i64 (0 : Int), AV.int IntKind.i64 (0 : Int)]), some (Row.arr false Sh.bool e4 us none), some (Row.arr false (Sh.int IntKind.u8) (5 : Nat) out none)]) (by kernel_rfl) ?_
    rw [← hk]
    by_cases hi : i ≥ 0
    · obtain ⟨j, rfl⟩ : ∃ j : Nat, i = j := ⟨i.toNat, by omega⟩
      have hje : j < es.length := by omega
      have hju : j < us.length := by omega
      have t1 : ((j : Int) + 1).toNat = j + 1 := by omega
      have w1 : IntKind.i64.wrap ((j : Int) - 1) = (j : Int) - 1 := wrap_mid _ (by omega) (by omega)
      have t2 : ((j : Int) - 1 + 1).toNat = j := by omega
      have hok := List.all_eq_true.1 hall (es.getD j .unk) (by rw [getD_eq hje]; exact List.getElem_mem hje)
      obtain ⟨v1, v2⟩ : (fN (es.getD j .unk)).length ≤ 60 ∧ (fV (es.getD j .unk)).length ≤ 4000 := of_decide_eq_true hok
      have hfl := fldF_len (fN (es.getD j .unk)) (fV (es.getD j .unk))
      have ie : inb (j : Int) es.length = true := inb_true (by omega) (by omega)
      have iu : inb (j : Int) us.length = true := inb_true (by omega) (by omega)
      have d1 : decide ((j : Int) ≥ 0) = true := decide_eq_true (by omega)
      have d2 : decide (j < us.length) = true := decide_eq_true hju
      have d3 : small (fN (es.getD j .unk)).length = true := decide_eq_true (by omega)
      have d4 : decide ((fN (es.getD j .unk)).length ≤ 100000000000 ∧ (fV (es.getD j .unk)).length ≤ 100000000000) = true := decide_eq_true ⟨by omega, by omega⟩
      have d5 : roomB (out.length + (bytesAV (fldF (fN (es.getD j .unk)) (fV (es.getD j .unk)))).length) (Tryz.prog.bytesOf 5) = true := room5 (by rw [bytesAV_length]; omega)
      have d6 : decide (j < j + 1) = true := decide_eq_true (by omega)
      have d7 : decide (-1 ≤ (j : Int) - 1 ∧ (j : Int) - 1 < (es.length : Int) ∧ us.length = es.length ∧ es.length ≤ 100 ∧ out.length ≤ 10000000 ∧ True) = true := decide_eq_true ⟨by omega, by omega, h3, h4, h5, trivial⟩
      have hdn : dn (frB es us n) (j + 1) = bif (!uB (us.getD j .unk) && eqF (fN (es.getD j .unk)) n) then some j else dn (frB es us n) j := rfl
      simp only [w1, Int.toNat_natCast, t1, t2, d1, d2, d3, d4, d5, d6, d7, ie, iu, hall, hsn, Bool.and_true, cond_true]
      rw [hdn]
      cases uB (us.getD j .unk) <;> cases eqF (fN (es.getD j .unk)) n <;> rfl
    · obtain rfl : i = -1 := by omega
      rw [decide_eq_false hi]
      rfl
  · cases h
theorem selF_cons (es us : List AV) (n : AV) (ns : List AV) : selF es (n :: ns) us = bif (dn (frB es us (sE n)) es.length).isSome then
      (fldE (es.getD ((dn (frB es us (sE n)) es.length).getD 0) .unk) ++ (selF es ns (us.set ((dn (frB es us (sE n)) es.length).getD 0) (.bool true))).1, (selF es ns (us.set ((dn (frB es us (sE n)) es.length).getD 0) (.bool true))).2)
    else selF es ns us := rfl
theorem loop24 : LoopOK Tryz.prog G24 [(9, l24), (12, l24b)] b24 l24 := by
  refine loopT g24.natOK rfl (KOK.one (by kernel_rfl) (by kernel_rfl) loop24b) μ24 (fun ρ vs rs k r h => ?_)
  unfold L24 at h
  split at h
  · rename_i es ns m q e4 us e out
    obtain ⟨hc, hk⟩ := gd_some h
    simp only [Bool.and_eq_true] at hc
    obtain ⟨hc, hb0, hnall, hall⟩ := hc
    obtain ⟨h3, h4, h5, rfl⟩ := of_decide_eq_true hb0
    clear hb0
    obtain ⟨rfl, hs, j, rfl, hj⟩ := cnt_spec hc
    rw [Int.toNat_natCast] at hk h5
    refine Eq.trans (b := bif decide ((↑j : Int) < (↑ns.length : Int)) then bif inb (↑j : Int) ns.length then bif decide ((-1 : Int) ≤ IntKind.i64.wrap ((↑es.length : Int) - (1 : Int)) ∧ IntKind.i64.wrap ((↑es.length : Int) - (1 : Int)) < (↑es.length : Int) ∧ us.length = es.length ∧ es.length ≤ (100 : Nat) ∧ out.length ≤ (10000000 : Nat) ∧ (5 : TypeId) = (5 : TypeId)) && (small (sE (ns.getD j AV.unk)).length && es.all okV) then bif (dn (frB es us (sE (ns.getD j AV.unk))) (IntKind.i64.wrap ((↑es.length : Int) - (1 : Int)) + (1 : Int)).toNat).isSome then bif decide (((↑ns.length : Int) - IntKind.i64.wrap ((↑j : Int) + (1 : Int))).toNat < ((↑ns.length : Int) - (↑j : Int)).toNat) then bif cnt (↑ns.length : Int) (IntKind.i64.wrap ((↑j : Int) + (1 : Int))) ns.length && (decide ((us.set ((dn (frB es us (sE (ns.getD j AV.unk))) (IntKind.i64.wrap ((↑es.length : Int) - (1 : Int)) + (1 : Int)).toNat).getD (0 : Nat)) (AV.bool true)).length = es.length ∧ es.length ≤ (100 : Nat) ∧ (out ++ fldE (es.getD ((dn (frB es us (sE (ns.getD j AV.unk))) (IntKind.i64.wrap ((↑es.length : Int) - (1 : Int)) + (1 : Int)).toNat).getD (0 : Nat)) AV.unk)).length + (ns.length - (IntKind.i64.wrap ((↑j : Int) + (1 : Int))).toNat) * (10000 : Nat) ≤ (10000000 : Nat) ∧ (5 : TypeId) = (5 : TypeId)) && (ns.all okN && es.all okV)) then k (Ex.exit (0 : Nat)) [AV.slv (Sh.agg [Sh.str, Sh.str]) es, AV.ptr (1 : Nat) (0 : Nat), AV.own (386 : Nat), AV.own (900 : Nat), AV.slv Sh.str ns, AV.int IntKind.i64 (↑ns.length : Int), AV.int IntKind.i64 (↑ns.length : Int)] [some (Row.box false [AV.int IntKind.i64 (0 : Int), AV.int IntKind.i64 (0 : Int)]), some (Row.arr false Sh.bool e4 (selF es (List.drop (IntKind.i64.wrap ((↑j : Int) + (1 : Int))).toNat ns) (us.set ((dn (frB es us (sE (ns.getD j AV.unk))) (IntKind.i64.wrap ((↑es.length : Int) - (1 : Int)) + (1 : Int)).toNat).getD (0 : Nat)) (AV.bool true))).snd none), some (Row.arr false (Sh.int IntKind.u8) (5 : Nat) (out ++ fldE (es.getD ((dn (frB es us (sE (ns.getD j AV.unk))) (IntKind.i64.wrap ((↑es.length : Int) - (1 : Int)) + (1 : Int)).toNat).getD (0 : Nat)) AV.unk) ++ (selF es (List.drop (IntKind.i64.wrap ((↑j : Int) + (1 : Int))).toNat ns) (us.set ((dn (frB es us (sE (ns.getD j AV.unk))) (IntKind.i64.wrap ((↑es.length : Int) - (1 : Int)) + (1 : Int)).toNat).getD (0 : Nat)) (AV.bool true))).fst) none)] else none else none else bif decide (((↑ns.length : Int) - IntKind.i64.wrap ((↑j : Int) + (1 : Int))).toNat < ((↑ns.length : Int) - (↑j : Int)).toNat) then bif cnt (↑ns.length : Int) (IntKind.i64.wrap ((↑j : Int) + (1 : Int))) ns.length && (decide (us.length = es.length ∧ es.length ≤ (100 : Nat) ∧ out.length + (ns.length - (IntKind.i64.wrap ((↑j : Int) + (1 : Int))).toNat) * (10000 : Nat) ≤ (10000000 : Nat) ∧ (5 : TypeId) = (5 : TypeId)) && (ns.all okN && es.all okV)) then k (Ex.exit (0 : Nat)) [AV.slv (Sh.agg [Sh.str, Sh.str]) es, AV.ptr (1 : Nat) (0 : Nat), AV.own (386 : Nat), AV.own (900 : Nat), AV.slv Sh.str ns, AV.int IntKind.i64 (↑ns.length : Int), AV.int IntKind.i64 (↑ns.length : Int)] [some (Row.box false [AV.int IntKind.i64 (0 : Int), AV.int IntKind.i64 (0 : Int)]), some (Row.arr false Sh.bool e4 (selF es (List.drop (IntKind.i64.wrap ((↑j : Int) + (1 : Int))).toNat ns) us).snd none), some (Row.arr false (Sh.int IntKind.u8) (5 : Nat) (out ++ (selF es (List.drop (IntKind.i64.wrap ((↑j : Int) + (1 : Int))).toNat ns) us).fst) none)] else none else none else none else none else k (Ex.exit (0 : Nat)) [AV.slv (Sh.agg [Sh.str, Sh.str]) es, AV.ptr (1 : Nat) (0 : Nat), AV.own (386 : Nat), AV.own (900 : Nat), AV.slv Sh.str ns, AV.int IntKind.i64 (↑ns.length : Int), AV.int IntKind.i64 (↑j : Int)] [some (Row.box false [AV.int IntKind.i64 (0 : Int), AV.int IntKind.i64 (0 : Int)]), some (Row.arr false Sh.bool e4 us none), some (Row.arr false (Sh.int IntKind.u8) (5 : Nat) out none)]) (by kernel_rfl) ?_
    rw [← hk]
    by_cases hlt : j < ns.length
    · obtain ⟨e1, e2, e3, e4', e5⟩ := cnt_facts hlt hs
      have hnj : okN (ns.getD j .unk) = true := List.all_eq_true.1 hnall _ (by rw [getD_eq hlt]; exact List.getElem_mem hlt)
      have hsm : small (sE (ns.getD j .unk)).length = true := by unfold okN at hnj; simp only [Bool.and_eq_true] at hnj; exact hnj.2
      have w1 : IntKind.i64.wrap ((es.length : Int) - 1) = (es.length : Int) - 1 := wrap_mid _ (by omega) (by omega)
      have t2 : ((es.length : Int) - 1 + 1).toNat = es.length := by omega
      have d7 : decide (-1 ≤ (es.length : Int) - 1 ∧ (es.length : Int) - 1 < (es.length : Int) ∧ us.length = es.length ∧ es.length ≤ 100 ∧ out.length ≤ 10000000 ∧ True) = true := decide_eq_true ⟨by omega, by omega, h3, h4, by omega, trivial⟩
      rw [drop_getD hlt, selF_cons]
      simp only [e1, e2, e3, e4', e5, hsm, w1, t2, d7, hall, hnall, Bool.and_true, Bool.true_and, cond_true, Int.toNat_natCast]
      have hbd : out.length + (ns.length - (j + 1)) * 10000 + 10000 ≤ 10000000 := by omega
      have hbd0 : out.length + (ns.length - (j + 1)) * 10000 ≤ 10000000 := Nat.le_trans (Nat.le_add_right _ 10000) hbd
      have h0 : decide (us.length = es.length ∧ es.length ≤ 100 ∧ out.length + (ns.length - (j + 1)) * 10000 ≤ 10000000 ∧ True) = true := decide_eq_true (And.intro h3 (And.intro h4 (And.intro hbd0 True.intro)))
      have h1 : ∀ x q, (fldE (es.getD q .unk)).length ≤ 10000 → decide ((us.set q x).length = es.length ∧ es.length ≤ 100 ∧ (out ++ fldE (es.getD q .unk)).length + (ns.length - (j + 1)) * 10000 ≤ 10000000 ∧ True) = true := fun x q hq => decide_eq_true ⟨by rw [List.length_set]; exact h3, h4, by rw [List.length_append]; omega, trivial⟩
      cases hd : dn (frB es us (sE (ns.getD j .unk))) es.length with
      | none =>
        simp only [h0]
        rfl
      | some q =>
        have hq : q < es.length := dn_lt hd
        have hok := List.all_eq_true.1 hall (es.getD q .unk) (by rw [getD_eq hq]; exact List.getElem_mem hq)
        obtain ⟨v1, v2⟩ : (fN (es.getD q .unk)).length ≤ 60 ∧ (fV (es.getD q .unk)).length ≤ 4000 := of_decide_eq_true hok
        have hfl := fldF_len (fN (es.getD q .unk)) (fV (es.getD q .unk))
        have hfe : (fldE (es.getD q .unk)).length ≤ 10000 := by unfold fldE; rw [bytesAV_length]; omega
        simp only [Option.isSome_some, Option.getD_some, h1 _ q hfe, cond_true, List.append_assoc]
        rfl
    · obtain rfl : j = ns.length := by omega
      rw [decide_eq_false (by omega), List.drop_length]
      show k _ _ _ = k _ _ [_, _, some (.arr false (.int .u8) 5 (out ++ []) none)]
      rw [List.append_nil]
      rfl
  · cases h
theorem hv_ok {es : List AV} (h : (hvC es == 0) = true) : es.all okV = true := by
  have h60 := hv_len h
  have h0 : hvC es = 0 := by simpa using h
  refine List.all_eq_true.2 fun e he => ?_
  obtain ⟨i, hi, rfl⟩ := List.getElem_of_mem he
  have hb : badF es i = false := by
    unfold hvC at h0
    rw [decide_eq_false (by omega), cond_false] at h0
    cases hf : findN (badF es) es.length 0 with
    | none => exact findN_none hf i (Nat.zero_le _) hi
    | some q =>
      rw [hf] at h0
      obtain ⟨_, _, h3, _⟩ := findN_some hf
      unfold badF at h3
      rw [show fdC (fN (es.getD q .unk)) (fV (es.getD q .unk)) = 0 from h0] at h3
      cases h3
  have hz : fdC (fN es[i]) (fV es[i]) = 0 := by
    unfold badF at hb
    rw [getD_eq hi] at hb
    simpa using hb
  unfold fdC at hz
  refine decide_eq_true ?_
  cases h1 : fnB (fN es[i])
  · rw [h1] at hz; cases hz
  · rw [h1] at hz
    cases h4 : decide (((fV es[i]).length : Int) > 4000)
    · have := of_decide_eq_false h4
      unfold fnB at h1
      simp only [Bool.and_eq_true, decide_eq_true_eq] at h1
      omega
    · rw [h4] at hz; cases hz
theorem room4 {n : Nat} (h : n ≤ 2000000) : roomB n (Tryz.prog.bytesOf 4) = true := roomB_small h (of_decide_eq_true (by kernel_rfl))
def cfC (es ns : List AV) : Int := bif !(hvC es == 0) then hvC es else bif decide ((ns.length : Int) > 300) then 2 else 0
def cfI (es ns : List AV) : Int := bif !(hvC es == 0) then hvI es else bif decide ((ns.length : Int) > 300) then -2 else 0
def cfB (es ns : List AV) : List AV := bif !(hvC es == 0) then [] else bif decide ((ns.length : Int) > 300) then [] else (selF es ns (List.replicate es.length (.bool false))).1
def F24 : List AV → Tr AV
  | [.slv (.agg [.str, .str]) es, .slv .str ns] => .gd (small es.length && (es.all okF && ns.all okN)) (.leaf (.tup [.slv (.int .u8) (cfB es ns), .agg [.int .i64 (cfC es ns), .int .i64 (cfI es ns)]]))
  | _ => .no
theorem ok24 : SumOK Tryz.prog 24 (ofT F24) ∧ SNat (ofT F24) := by
  refine fnT (K := [(9, l24), (12, l24b)]) g24 Tryz.func24 (bs := [b24, c24]) (by kernel_rfl) (fun b hb => ?_) fun ρ avs k r h => ?_
  · simp at hb
    rcases hb with rfl | rfl
    · exact ⟨l24, by kernel_rfl, loop24⟩
    · exact ⟨l24b, by kernel_rfl, loop24b⟩
  unfold F24 at h
  split at h
  · rename_i es ns
    obtain ⟨hc, hk⟩ := gd_some h
    simp only [Bool.and_eq_true] at hc
    obtain ⟨hc, hall, hnall⟩ := hc
    refine Eq.trans (b := bif small es.length && es.all okF then bif hvC es != (0 : Int) then k (AV.tup [AV.slv (Sh.int IntKind.u8) [], AV.agg [AV.int IntKind.i64 (hvC es), AV.int IntKind.i64 (hvI es)]]) else bif decide ((↑ns.length : Int) > (300 : Int)) then k (AV.tup [AV.slv (Sh.int IntKind.u8) [], AV.agg [AV.int IntKind.i64 (2 : Int), AV.int IntKind.i64 (-2 : Int)]]) else bif (↑es.length : Int) == (↑es.length : Int) && (decide ((0 : Int) ≤ (↑es.length : Int)) && roomB (↑es.length : Int).toNat (Tryz.prog.bytesOf (4 : Nat))) then bif cnt (↑ns.length : Int) (0 : Int) ns.length && (decide ((List.replicate (↑es.length : Int).toNat (zeroE Tryz.prog (4 : Nat))).length = es.length ∧ es.length ≤ (100 : Nat) ∧ ([] : List AV).length + (ns.length - Int.toNat (0 : Int)) * (10000 : Nat) ≤ (10000000 : Nat) ∧ ((8 : Nat), (900 : Nat), (5 : TypeId)).snd.snd = (5 : TypeId)) && (ns.all okN && es.all okV)) then k (AV.tup [AV.slv (Sh.int IntKind.u8) ([] ++ (selF es (List.drop (0 : Nat) ns) (List.replicate (↑es.length : Int).toNat (zeroE Tryz.prog (4 : Nat)))).fst), AV.agg [AV.int IntKind.i64 (0 : Int), AV.int IntKind.i64 (0 : Int)]]) else none else none else none) (by kernel_rfl) ?_
    rw [← hk, hc, hall]
    have hne : (hvC es != 0) = !(hvC es == 0) := rfl
    rw [hne]
    unfold cfC cfI cfB
    cases h0 : hvC es == 0
    · rfl
    · have h6 := hv_len h0
      have hv := hv_ok h0
      cases h3 : decide ((ns.length : Int) > 300)
      · have hn3 : ns.length ≤ 300 := by have := of_decide_eq_false h3; omega
        have hz : zeroE Tryz.prog 4 = .bool false := by kernel_rfl
        rw [hz, Int.toNat_natCast, List.length_replicate, List.drop_zero, List.nil_append, hv, hnall]
        refine Eq.trans (cond_t rfl) (Eq.trans (cond_f rfl) (Eq.trans (cond_f rfl) (Eq.trans (cond_t (and_t (beq_self_eq_true _) (and_t (decide_eq_true (by omega)) (room4 (by omega))))) (Eq.trans (cond_t (and_t (cnt_zero (decide_eq_true (by omega))) (and_t (decide_eq_true ⟨rfl, by omega, by show 0 + (ns.length - 0) * 10000 ≤ 10000000; omega, rfl⟩) rfl))) rfl))))
      · rfl
  · cases h
end Go.Proofs.YthdhfmdhjanoaaaGreatDoor

/-
  One round of a loop over a function: what a call of the function that it hands over comes to.
-/
namespace Go.Ev
open Go.RowKit

/-- A function without results. -/
def fnE : Func := { (default : Func) with results := #[] }
/-- A round: the parameters are laid, the assignment and the body are gone through. -/
noncomputable def evY (P : Program) (Γ : Env) (K : List (Nat × Loop)) (key : Int) (q : Array Tmp × Code × Code) : SummX := fun ρ avs rows k =>
  match avs, rows with
  | .own p :: xs, .box false (.tup [.int .i64 key'] :: tm) :: rest =>
    if p == PID && (key' == key && Nat.ble rest.length 999999) then
      (St.mk ((q.1.toList.zip xs).foldl (fun t p => t.set p.1 p.2) tm) (zipIds (PID + 1) rest) (List.range' PID (rest.length + 1))).force fun st =>
        evC P Γ K q.2.1 ρ st fun e st1 => match e with
          | .normal => evC P Γ K q.2.2 ρ st1 fun e st2 => match e with
            | .normal => finishX P fnE (rest.length + 1) st2 fun _ prow nrow => k (.bool true) (some (.box false (.tup [.int .i64 key] :: tm)) :: prow.tail) nrow
            | _ => none
          | _ => none
    else none
  | _, _ => none

theorem sets_rel {w : World} {S : Nat → Prop} {β : Bet} : ∀ (ps : List Nat) {xs tm : List AV} {args us : List Value}, VRels w S β xs args → VRels w S β tm us → VRels w S β ((ps.zip xs).foldl (fun t p => t.set p.1 p.2) tm) ((ps.zip args).foldl (fun t p => t.set p.1 p.2) us)
  | [], _, _, _, _, _, h => h
  | p :: ps, [], _, args, _, hx, h => by
    rw [hx.inv_nil]
    exact h
  | p :: ps, x :: xs, tm, args, us, hx, h => by
    obtain ⟨v, vs, rfl, hv, hvs⟩ := hx.inv
    exact sets_rel ps hvs (h.set p hv)
theorem foldl_sets : ∀ (l : List (Nat × Value)) (t : Array Value), (l.foldl (fun t p => t.setIfInBounds p.1 p.2) t).toList = l.foldl (fun t p => t.set p.1 p.2) t.toList
  | [], _ => rfl
  | p :: l, t => by
    rw [List.foldl_cons, List.foldl_cons, foldl_sets l]
    simp

section
variable {P : Program} {Γ : Env} {K : List (Nat × Loop)}
theorem lookup_zip1 {rows : List Row} {x : Row} {id : Nat} {r : Row} (h : lookup (zipIds (PID + 1) rows) id = some r) : id ≠ PID ∧ lookup (zipIds PID (x :: rows)) id = some r := by
  obtain ⟨hle, _⟩ := lookup_zipIds _ _ _ _ h
  have hne : id ≠ PID := by omega
  refine ⟨hne, ?_⟩
  show lookup ((PID, x) :: zipIds (PID + 1) rows) id = some r
  simp only [lookup]
  rw [if_neg (fun e => hne e.symm)]
  exact h

theorem yok_core (hΓ : GOK P Γ) (hD : DrawOK P Γ) (hr : Γ.rng = none) {key : Int} {q : Array Tmp × Code × Code} (hq : q = loopCode key) (hKa : KOK P Γ K q.2.1) (hKb : KOK P Γ K q.2.2)
    {ρ : Type} {w : World} {S B : Nat → Prop} {β : Bet} {og : Nat → Option Nat} {avs tm : List AV} {rows : List Row} {args : List Value} {k : AV → List (Option Row) → List Row → Option ρ} {r : ρ} {l : Nat} {r0 : Go.Loop} {us : List Value}
    (hH : Heap w S B β og (zipIds PID (.box false (.tup [.int .i64 key] :: tm) :: rows))) (hSB : (∀ b, S b → B b) ∧ Glb B w) (hdom : ∀ id x, β id = some x → PID ≤ id ∧ id < PID + (rows.length + 1)) (hv : VRels w S β avs args)
    (hbl : β PID = some (.func (.yield l) #[] #[], 1)) (hol : og PID = some l) (hhl : w.heap[l]? = some (.loop r0)) (hst : r0.state = .ready) (_hpd : r0.pending = none) (hlc : (r0.params, r0.assign, r0.body) = loopCode key) (htm : r0.tmps.toList = us) (htv : VRels w S β tm us) (hsm : rows.length ≤ 999999)
    (he : (evC P Γ K q.2.1 ρ (St.mk ((q.1.toList.zip avs).foldl (fun t p => t.set p.1 p.2) tm) (zipIds (PID + 1) rows) (List.range' PID (rows.length + 1))) fun e st1 => match e with
          | .normal => evC P Γ K q.2.2 ρ st1 fun e st2 => match e with
            | .normal => finishX P fnE (rows.length + 1) st2 fun _ prow nrow => k (.bool true) (some (.box false (.tup [.int .i64 key] :: tm)) :: prow.tail) nrow
            | _ => none
          | _ => none) = some r) :
    RoundIn Fence.wide 0 P l r0.fn ((r0.params.zip args.toArray).foldl (fun t (p, v) => t.setIfInBounds p v) r0.tmps) r0.assign r0.body w fun e w' => ∃ u v prow nrow S' β' og', e = .returned u ∧ k v prow nrow = some r ∧ After w S B β prow nrow v u w' S' β' og' := by
  obtain ⟨hSB, hG⟩ := hSB
  have hqq : q = (r0.params, r0.assign, r0.body) := hq.trans hlc.symm
  subst hqq
  have hlw : l < w.heap.size := hH.lt PID l hol
  have hrow0 := hH.row PID (.box false (.tup [.int .i64 key] :: tm)) (by simp [zipIds, lookup])
  have hSl : ¬ S l := hrow0.free rfl l hol
  have hBl : ¬ B l := hrow0.place.2 l hol
  have hPR : PID < RID := by decide
  obtain ⟨B2, hB2⟩ : ∃ B2 : Ctx, B2 = ⟨fun b => B b ∨ b = l, β, []⟩ := ⟨_, rfl⟩
  have hB2l : B2 l := by rw [hB2]; exact .inr rfl
  have hB2B : ∀ b, B b → B2 b := fun b hb => by rw [hB2]; exact .inl hb
  have hzip : ((r0.params.zip args.toArray).foldl (fun t (p, v) => t.setIfInBounds p v) r0.tmps).toList = (r0.params.toList.zip args).foldl (fun t p => t.set p.1 p.2) us := by
    rw [← htm, ← foldl_sets, ← Array.foldl_toList]
    simp
  have hRel : Rel w S B2 β (fun id => if id = PID then none else og id) (St.mk ((r0.params.toList.zip avs).foldl (fun t p => t.set p.1 p.2) tm) (zipIds (PID + 1) rows) (List.range' PID (rows.length + 1))) { tmps := (r0.params.zip args.toArray).foldl (fun t (p, v) => t.setIfInBounds p v) r0.tmps, defers := [] } := by
    refine ⟨?_, by rw [hB2], fun id x hx => ?_, fun id id' g hg hg' => ?_, fun id g hg => ?_, fun id x hx => ?_, hH.one, hH.Slt, fun b hb => ?_, fun id x _ hx => by rw [hB2]; exact hx⟩
    · show VRels w S β _ ((r0.params.zip args.toArray).foldl (fun t (p, v) => t.setIfInBounds p v) r0.tmps).toList
      rw [hzip]
      exact sets_rel _ hv htv
    · obtain ⟨hne, hx⟩ := lookup_zip1 (x := .box false (.tup [.int .i64 key] :: tm)) hx
      rw [if_neg hne]
      refine (hH.row id x hx).monoB fun g hg hn hb => ?_
      rw [hB2] at hb
      rcases hb with hb | hb
      · exact hn hb
      · subst hb; exact hne (hH.inj id PID _ hg hol)
    · by_cases e : id = PID
      · rw [if_pos e] at hg; cases hg
      · by_cases e' : id' = PID
        · rw [if_pos e'] at hg'; cases hg'
        · rw [if_neg e] at hg; rw [if_neg e'] at hg'; exact hH.inj id id' g hg hg'
    · by_cases e : id = PID
      · rw [if_pos e] at hg; cases hg
      · rw [if_neg e] at hg; exact hH.lt id g hg
    · obtain ⟨h1, h2⟩ := hdom id x hx
      show id ∈ List.range' PID (rows.length + 1)
      rw [List.mem_range'_1]
      exact ⟨h1, h2⟩
    · rw [hB2] at hb
      rcases hb with hb | hb
      · exact hH.Ble b hb
      · omega
  have hG2 : Glb B2 w := hG.mono hB2B
  have hX : RelX w S B2 (St.mk ((r0.params.toList.zip avs).foldl (fun t p => t.set p.1 p.2) tm) (zipIds (PID + 1) rows) (List.range' PID (rows.length + 1))) { tmps := (r0.params.zip args.toArray).foldl (fun t (p, v) => t.setIfInBounds p v) r0.tmps, defers := [] } w :=
    ⟨S, β, _, hRel, ⟨KeptG.refl hG2, fun _ h => .inl h, fun _ h => h⟩⟩
  refine roundIn_of_wpIn (F := Fence.wide) (n := 0) trivial ?_
  refine evC_sound (R := some l) hΓ hD r0.assign hKa (RngOK.no hr _) ρ _ _ r _ w _ he hX.e fun e st1 a1 w1 he1 hx1 => ?_
  cases e with
  | ret => cases he1
  | exit i => cases he1
  | normal =>
  obtain ⟨wa, Sa, Ba, hEa, S1, β1, og1, hR1, hO1⟩ := hx1
  have hBal : Ba l := hEa.up l hB2l
  have hw1l : w1.heap[l]? = some (.loop r0) := (hO1.bel.block l hBal).trans ((hEa.kept.block l hB2l).trans hhl)
  have hS1l : ¬ S1 l := fun hs => (hO1.sin l hs).elim (fun h => (hEa.sin l h).elim hSl fun h => h hB2l) fun h => h hBal
  have hk1 : Kept B w w1 := Kept.trans (b := wa) ⟨hEa.kept.os, hEa.kept.tape, hEa.kept.output, hEa.kept.size, fun b hb => hEa.kept.block b (hB2B b hb)⟩ ⟨hO1.bel.os, hO1.bel.tape, hO1.bel.output, hO1.bel.size, fun b hb => hO1.bel.block b (hEa.up b (hB2B b hb))⟩
  have hk2 : Kept B w (w1.putObj l (.loop { r0 with state := .busy })) := hk1.putBlock _ hBl
  have hR2 : Rel (w1.putObj l (.loop { r0 with state := .busy })) S1 Ba β1 og1 st1 a1 := hR1.putBlock _ (fun id x hx hg => (hR1.row id x hx).place.2 l hg hBal) hS1l
  have hGa : Glb Ba (w1.putObj l (.loop { r0 with state := .busy })) := fun w' hk => hG w' (hk2.trans ⟨hk.os, hk.tape, hk.output, hk.size, fun b hb => hk.block b (hEa.up b (hB2B b hb))⟩)
  have hX2 : RelX (w1.putObj l (.loop { r0 with state := .busy })) S1 Ba st1 a1 (w1.putObj l (.loop { r0 with state := .busy })) := ⟨S1, β1, og1, hR2, ⟨KeptG.refl hGa, fun _ h => .inl h, fun _ h => h⟩⟩
  refine ⟨_, run_beginRound hw1l hst, ?_⟩
  obtain ⟨w2, hw2⟩ : ∃ w2, w2 = w1.putObj l (.loop { r0 with state := .busy }) := ⟨_, rfl⟩
  rw [← hw2] at hk2 hR2 hGa hX2 ⊢
  refine evC_sound (R := some l) hΓ hD r0.body hKb (RngOK.no hr _) ρ _ _ r _ w2 _ he1 hX2.e fun e st2 a2 w3 he2 hx2 => ?_
  cases e with
  | ret => cases he2
  | exit i => cases he2
  | normal =>
  obtain ⟨wb, Sb, Bb, hEb, S3, β3, og3, hR3, hO3⟩ := hx2
  have hBbl : Bb l := hEb.up l hBal
  have hl1 : l < w1.heap.size := (Array.getElem?_eq_some_iff.1 hw1l).1
  have hw2l : w2.heap[l]? = some (.loop { r0 with state := .busy }) := by rw [hw2]; exact World.putObj_heap_same hl1
  have hw3l : w3.heap[l]? = some (.loop { r0 with state := .busy }) := (hO3.bel.block l hBbl).trans ((hEb.kept.block l hBal).trans hw2l)
  have hl3 : l < w3.heap.size := (Array.getElem?_eq_some_iff.1 hw3l).1
  have hbet : Bb.bet = β := by rw [hEb.bet, hEa.bet, hB2]
  have hdomR : ∀ id x, Bb.bet id = some x → id < RID := fun id x hx => by
    rw [hbet] at hx
    have := (hdom id x hx).2
    have : PID + 1000000 < RID := by decide
    omega
  obtain ⟨u, hrun2, v, prow, nrow, S', β', og', hk', hA⟩ := finishX_sound (w := w3) (np := rows.length + 1) ⟨S3, β3, og3, hR3, hO3⟩ hdomR he2
  refine ⟨_, _, run_endRound none hw3l, .bool true, .bool true, _, _, S', fun id => if id < RID then β id else β' id, fun id => @ite _ (id = PID) _ (some l) (@ite _ ((∃ j x, id = PID + j ∧ prow[j]? = some (some x)) ∨ ∃ j x, id = RID + j ∧ nrow[j]? = some x) (Classical.propDecidable _) (og' id) none), rfl, hk', ?_⟩
  -- what has stayed
  obtain ⟨w4, hw4⟩ : ∃ w4, w4 = w3.putObj l (.loop { ({ r0 with state := .busy } : Go.Loop) with state := .ready, pending := none }) := ⟨_, rfl⟩
  have hw4l : w4.heap[l]? = some (.loop { ({ r0 with state := .busy } : Go.Loop) with state := .ready, pending := none }) := by rw [hw4]; exact World.putObj_heap_same hl3
  have hoth : ∀ b, b ≠ l → w4.heap[b]? = w3.heap[b]? := fun b hb => by rw [hw4]; exact World.putObj_heap_other hb
  have hsz4 : w4.heap.size = w3.heap.size := by rw [hw4]; exact World.putObj_size
  have hup : ∀ b, B b → Bb b := fun b hb => hEb.up b (hEa.up b (hB2B b hb))
  have hk3 : Kept B w w3 := hk2.trans (Kept.trans (b := wb) ⟨hEb.kept.os, hEb.kept.tape, hEb.kept.output, hEb.kept.size, fun b hb => hEb.kept.block b (hEa.up b (hB2B b hb))⟩ ⟨hA.kept.os, hA.kept.tape, hA.kept.output, hA.kept.size, fun b hb => hA.kept.block b (hup b hb)⟩)
  have hk4 : Kept B w w4 := by rw [hw4]; exact hk3.putBlock _ hBl
  have hsubA : ∀ b, S b → S' b := fun b hb => hA.sub b (hEb.sub b (hO1.sub b (hEa.sub b hb)))
  have hsinA : ∀ b, S' b → S b ∨ ¬ B2 b := fun b hb => (hA.sin b hb).elim (fun h => (hEb.sin b h).elim (fun h => (hO1.sin b h).elim (hEa.sin b) fun h => .inr fun h' => h (hEa.up b h')) fun h => .inr fun h' => h (hEa.up b h')) fun h => .inr fun h' => h (hEb.up b (hEa.up b h'))
  have hS'l : ¬ S' l := fun hs => (hsinA l hs).elim hSl fun h => h hB2l
  have hβ1 : ∀ id x, β' id = some x → (if id < RID then β id else β' id) = some x := fun id x hx => by
    by_cases hlt : id < RID
    · rw [if_pos hlt, ← hbet]; exact hA.bet id x hlt hx
    · rw [if_neg hlt]; exact hx
  have hβ2 : ∀ id x, β id = some x → (if id < RID then β id else β' id) = some x := fun id x hx => by
    have h1 := (hdom id x hx).2
    have h2 : PID + 1000000 < RID := by decide
    rw [if_pos (by omega)]; exact hx
  have hwS : ∀ b, S b → w4.heap[b]? = w.heap[b]? := fun b hb => hk4.block b (hSB b hb)
  have hwS' : ∀ b, S' b → w4.heap[b]? = w3.heap[b]? := fun b hb => hoth b fun e => hS'l (by rw [← e]; exact hb)
  have hplP : ∀ j x, prow[j]? = some (some x) → ∀ g, og' (PID + j) = some g → g ≠ l := fun j x hx g hg e => (hA.prow j x hx).place.2 g hg (by rw [e]; exact hBbl)
  have hplN : ∀ j x, nrow[j]? = some x → ∀ g, og' (RID + j) = some g → g ≠ l := fun j x hx g hg e => (hA.nrow j x hx).place.2 g hg (by rw [e]; exact hBbl)
  obtain ⟨og2, hog2⟩ : ∃ og2 : Nat → Option Nat, og2 = fun id => @ite _ (id = PID) _ (some l) (@ite _ ((∃ j x, id = PID + j ∧ prow[j]? = some (some x)) ∨ ∃ j x, id = RID + j ∧ nrow[j]? = some x) (Classical.propDecidable _) (og' id) none) := ⟨_, rfl⟩
  rw [← hog2]
  suffices hfin : After w S B β (some (.box false (.tup [.int .i64 key] :: tm)) :: prow.tail) nrow (.bool true) (.bool true) w4 S' (fun id => if id < RID then β id else β' id) og2 by
    rw [hw4] at hfin
    exact hfin
  have hogP : og2 PID = some l := by rw [hog2]; simp
  have hogp : ∀ j x, prow[j + 1]? = some (some x) → og2 (PID + (j + 1)) = og' (PID + (j + 1)) := fun j x hx => by
    rw [hog2]
    show @ite _ (PID + (j + 1) = PID) _ _ _ = _
    rw [if_neg (by omega), if_pos (.inl ⟨j + 1, x, rfl, hx⟩)]
  have hogn : ∀ j x, nrow[j]? = some x → og2 (RID + j) = og' (RID + j) := fun j x hx => by
    rw [hog2]
    show @ite _ (RID + j = PID) _ _ _ = _
    rw [if_neg (by omega), if_pos (.inr ⟨j, x, rfl, hx⟩)]
  have hcl : ∀ id g, og2 id = some g → (id = PID ∧ g = l) ∨ (id ≠ PID ∧ g ≠ l ∧ og' id = some g) := fun id g hg => by
    rw [hog2] at hg
    by_cases e : id = PID
    · have hg : @ite _ (id = PID) _ (some l) _ = some g := hg
      rw [if_pos e] at hg
      cases hg
      exact .inl ⟨e, rfl⟩
    · have hg : @ite _ (id = PID) _ (some l) _ = some g := hg
      rw [if_neg e] at hg
      split at hg
      · rename_i hc
        refine .inr ⟨e, ?_, hg⟩
        rcases hc with ⟨j, x, rfl, hx⟩ | ⟨j, x, rfl, hx⟩
        · exact hplP j x hx g hg
        · exact hplN j x hx g hg
      · cases hg
  refine ⟨hk4, hsubA, fun b hb => (hsinA b hb).imp id fun h hb => h (hB2B b hb), .bool _ _, fun j x hx => ?_, fun j x hx => ?_, fun id id' g hg hg' => ?_, fun id g hg => ?_, fun id x hx => ?_, fun b hb => by rw [hsz4]; exact hA.Slt b hb, fun id x hlt hx => by have hx : (if id < RID then β id else β' id) = some x := hx; rw [if_pos hlt] at hx; exact hx⟩
  · cases j with
    | zero =>
      simp only [List.getElem?_cons_zero, Option.some.injEq] at hx
      subst hx
      refine ⟨l, .tuple #[.int .i64 key] :: us, .func (.yield l) #[] #[], hogP, hβ2 _ _ hbl, .inr ⟨_, key, us, hw4l, rfl, rfl, hlc, rfl, htm, rfl⟩, VRels.cons ?_ (htv.mono hsubA hwS hβ2), fun _ => hS'l, (fun h => by cases h), hBl⟩
      exact .tup _ [.int .i64 key] [.int .i64 key] rfl fun j c u hc hu => by
        cases j with
        | zero => simp at hc hu; subst hc; subst hu; exact .int _ _ _
        | succ j => simp at hc
    | succ j =>
      have hx' : prow[j + 1]? = some (some x) := by
        rw [List.getElem?_cons_succ, List.getElem?_tail] at hx
        exact hx
      rw [hogp j x hx']
      exact ((hA.prow (j + 1) x hx').monoB (fun g _ hn hb => hn (hup g hb))).keep hβ1 (fun _ h => h) (fun _ _ h => h) hwS' (fun g hg => hoth g (hplP (j + 1) x hx' g hg))
  · rw [hogn j x hx]
    exact ((hA.nrow j x hx).monoB (fun g _ hn hb => hn (hup g hb))).keep hβ1 (fun _ h => h) (fun _ _ h => h) hwS' (fun g hg => hoth g (hplN j x hx g hg))
  · rcases hcl id g hg with ⟨rfl, rfl⟩ | ⟨h1, h2, h3⟩ <;> rcases hcl id' g hg' with ⟨rfl, h5⟩ | ⟨h4, h5, h6⟩
    · rfl
    · exact absurd rfl h5
    · exact absurd h5 h2
    · exact hA.inj id id' g h3 h6
  · rw [hsz4]
    rcases hcl id g hg with ⟨_, rfl⟩ | ⟨_, _, h3⟩
    · exact hl3
    · exact hA.lt id g h3
  · have hx : (if id < RID then β id else β' id) = some x := hx
    split at hx
    · exact hH.one id x hx
    · exact hA.one id x hx

theorem yok_of (hΓ : GOK P Γ) (hD : DrawOK P Γ) (hr : Γ.rng = none) {key : Int} {q : Array Tmp × Code × Code} (hq : q = loopCode key) (hKa : KOK P Γ K q.2.1) (hKb : KOK P Γ K q.2.2) {F : SummX}
    (hF : ∀ ρ avs rows k r, F ρ avs rows k = some r → evY P Γ K key q ρ avs rows k = some r) : YOK P key F := by
  intro ρ w S B β og avs tm rows args k r l r0 us hH hSB hdom hv hbl hol hhl hst hpd hlc htm htv hrun
  obtain ⟨hSB, hG⟩ := hSB
  have he := hF _ _ _ _ _ hrun
  unfold evY at he
  simp only [beq_self_eq_true, Bool.true_and] at he
  split at he
  · rename_i hsm
    have hsm := Nat.le_of_ble_eq_true hsm
    rw [St.force_eq] at he
    exact yok_core hΓ hD hr hq hKa hKb hH ⟨hSB, hG⟩ hdom hv hbl hol hhl hst hpd hlc htm htv hsm he
  · cases he
end
end Go.Ev


namespace Go.Proofs.YthdhfmdhjanoaaaGreatDoor
open Go.Ev
noncomputable def GY : Env := { pure := [(82, ofT F82), (83, ofT F83)], conv := true }
theorem gY : GOK Tryz.prog GY := GOK.flags (GOK.also (GOK.also g0 ok83) ok82)
def rnd (o : List AV × Int) (line : List AV) : List AV × Int := bif sqF (strAV line) == [] then (o.1, o.2 + 1) else (o.1 ++ bytesAV (Lib.repeatL [13, 10] o.2.toNat ++ sqF (strAV line) ++ [13, 10]), 0)
def FY : List AV → List Row → Tr XOut
  | [.own p, .slv (.int .u8) line], [.box false [.tup [.int .i64 key], .slv (.int .u8) bs, .undef, .slz (.int .u8), .ptr 1125899906842625 0, .ptr 1125899906842627 0, .undef, .undef, .slv (.int .u8) bs', .unk, .unk, .fn 114 [.ptr 1125899906842628 0, .ptr 1125899906842629 0, .ptr 1125899906842630 0], .undef, .undef, .undef, .undef, .undef, .undef, .undef, .undef, .undef, .undef, .undef, .undef, .undef, .undef, .undef, .undef],
      .box false [.own 1125899906842626], .arr false (.int .u8) e5 out none, .box false [.int .i64 e], .box false [.slv (.int .u8) sep], .box false [.slv (.int .u8) cs], .box false [.int .i64 z]] =>
    .gd (p == PID && (key == 0 && decide (e5 = 5 ∧ 0 ≤ e ∧ out.length + 2 * e.toNat + line.length ≤ 10000000000))) (.br (sqF (strAV line) == [])
      (.leaf (.bool true, [some (.box false [.tup [.int .i64 key], .slv (.int .u8) bs, .undef, .slz (.int .u8), .ptr 1125899906842625 0, .ptr 1125899906842627 0, .undef, .undef, .slv (.int .u8) bs', .unk, .unk, .fn 114 [.ptr 1125899906842628 0, .ptr 1125899906842629 0, .ptr 1125899906842630 0], .undef, .undef, .undef, .undef, .undef, .undef, .undef, .undef, .undef, .undef, .undef, .undef, .undef, .undef, .undef, .undef]),
        some (.box false [.own 1125899906842626]), some (.arr false (.int .u8) e5 out none), some (.box false [.int .i64 (e + 1)]), some (.box false [.slv (.int .u8) sep]), some (.box false [.slv (.int .u8) cs]), some (.box false [.int .i64 z])], []))
      (.leaf (.bool true, [some (.box false [.tup [.int .i64 key], .slv (.int .u8) bs, .undef, .slz (.int .u8), .ptr 1125899906842625 0, .ptr 1125899906842627 0, .undef, .undef, .slv (.int .u8) bs', .unk, .unk, .fn 114 [.ptr 1125899906842628 0, .ptr 1125899906842629 0, .ptr 1125899906842630 0], .undef, .undef, .undef, .undef, .undef, .undef, .undef, .undef, .undef, .undef, .undef, .undef, .undef, .undef, .undef, .undef]),
        some (.box false [.own RID]), none, some (.box false [.int .i64 0]), some (.box false [.slv (.int .u8) sep]), some (.box false [.slv (.int .u8) cs]), some (.box false [.int .i64 z])], [.arr false (.int .u8) 5 (out ++ bytesAV (Lib.repeatL [13, 10] e.toNat ++ sqF (strAV line) ++ [13, 10])) none])))
  | _, _ => .no
theorem strAV_len (l : List AV) : (strAV l).length = l.length := by unfold strAV; rw [List.length_map]
theorem yokY : YOK Tryz.prog 0 (ofX FY) ∧ XNat (ofX FY) := by
  refine ⟨yok_of gY (drawOK gY (by kernel_rfl)) rfl (q := loopCode 0) rfl (KOK.nil (by kernel_rfl)) (KOK.nil (by kernel_rfl)) (K := []) fun ρ avs rows k r h => ?_, xnat_ofX FY⟩
  have h' : (FY avs rows).run (fun q => k q.1 q.2.1 q.2.2) = some r := h
  unfold FY at h'
  split at h'
  · rename_i p line key bs bs' e5 out e sep cs z
    obtain ⟨hc, hk⟩ := gd_some h'
    simp only [Bool.and_eq_true] at hc
    obtain ⟨hp, hkey, hb0⟩ := hc
    obtain rfl : p = PID := by simpa using hp
    obtain rfl : key = 0 := by simpa using hkey
    obtain ⟨rfl, he, hb⟩ := of_decide_eq_true hb0
    clear hb0
    refine Eq.trans (b := bif decide ((strAV line).length ≤ (100000000000 : Nat)) then bif sqF (strAV line) == ([] : List UInt8) then k (AV.bool true) [some (Row.box false [AV.tup [AV.int IntKind.i64 (0 : Int)], AV.slv (Sh.int IntKind.u8) bs, AV.undef, AV.slz (Sh.int IntKind.u8), AV.ptr (1125899906842625 : Nat) (0 : Nat), AV.ptr (1125899906842627 : Nat) (0 : Nat), AV.undef, AV.undef, AV.slv (Sh.int IntKind.u8) bs', AV.unk, AV.unk, AV.fn (114 : Nat) [AV.ptr (1125899906842628 : Nat) (0 : Nat), AV.ptr (1125899906842629 : Nat) (0 : Nat), AV.ptr (1125899906842630 : Nat) (0 : Nat)], AV.undef, AV.undef, AV.undef, AV.undef, AV.undef, AV.undef, AV.undef, AV.undef, AV.undef, AV.undef, AV.undef, AV.undef, AV.undef, AV.undef, AV.undef, AV.undef]), some (Row.box false [AV.own (1125899906842626 : Nat)]), some (Row.arr false (Sh.int IntKind.u8) (5 : Nat) out none), some (Row.box false [AV.int IntKind.i64 (IntKind.i64.wrap (e + (1 : Int)))]), some (Row.box false [AV.slv (Sh.int IntKind.u8) sep]), some (Row.box false [AV.slv (Sh.int IntKind.u8) cs]), some (Row.box false [AV.int IntKind.i64 z])] [] else bif decide ((0 : Int) ≤ e) && (decide (e ≤ (9223372036854775807 : Int)) && decide (([13, 10] : List UInt8).length * e.toNat ≤ (140737488355328 : Nat))) then bif lenB ((Lib.repeatL ([13, 10] : List UInt8) e.toNat).length + (sqF (strAV line)).length) then bif lenB ((Lib.repeatL ([13, 10] : List UInt8) e.toNat ++ sqF (strAV line)).length + ([13, 10] : List UInt8).length) then bif roomB (out.length + (bytesAV (Lib.repeatL ([13, 10] : List UInt8) e.toNat ++ sqF (strAV line) ++ ([13, 10] : List UInt8))).length) (Tryz.prog.bytesOf (5 : Nat)) then k (AV.bool true) [some (Row.box false [AV.tup [AV.int IntKind.i64 (0 : Int)], AV.slv (Sh.int IntKind.u8) bs, AV.undef, AV.slz (Sh.int IntKind.u8), AV.ptr (1125899906842625 : Nat) (0 : Nat), AV.ptr (1125899906842627 : Nat) (0 : Nat), AV.undef, AV.undef, AV.slv (Sh.int IntKind.u8) bs', AV.unk, AV.unk, AV.fn (114 : Nat) [AV.ptr (1125899906842628 : Nat) (0 : Nat), AV.ptr (1125899906842629 : Nat) (0 : Nat), AV.ptr (1125899906842630 : Nat) (0 : Nat)], AV.undef, AV.undef, AV.undef, AV.undef, AV.undef, AV.undef, AV.undef, AV.undef, AV.undef, AV.undef, AV.undef, AV.undef, AV.undef, AV.undef, AV.undef, AV.undef]), some (Row.box false [AV.own (2251799813685248 : Nat)]), none, some (Row.box false [AV.int IntKind.i64 (0 : Int)]), some (Row.box false [AV.slv (Sh.int IntKind.u8) sep]), some (Row.box false [AV.slv (Sh.int IntKind.u8) cs]), some (Row.box false [AV.int IntKind.i64 z])] [Row.arr false (Sh.int IntKind.u8) (5 : Nat) (out ++ bytesAV (Lib.repeatL ([13, 10] : List UInt8) e.toNat ++ sqF (strAV line) ++ ([13, 10] : List UInt8))) none] else none else none else none else none else none) (by kernel_rfl) ?_
    rw [← hk]
    have hq := sqF_len (strAV line)
    have hl := strAV_len line
    have hr := Lib.repeatL_length [13, 10] e.toNat
    have h2 : ([13, 10] : List UInt8).length = 2 := rfl
    rw [h2] at hr
    have w1 : IntKind.i64.wrap (e + 1) = e + 1 := wrap_mid _ (by omega) (by omega)
    have ha : (Lib.repeatL [13, 10] e.toNat ++ sqF (strAV line)).length = e.toNat * 2 + (sqF (strAV line)).length := by rw [List.length_append, hr]
    have hb3 : (bytesAV (Lib.repeatL [13, 10] e.toNat ++ sqF (strAV line) ++ [13, 10])).length = e.toNat * 2 + (sqF (strAV line)).length + 2 := by rw [bytesAV_length, List.length_append, ha, h2]
    rw [w1]
    refine Eq.trans (cond_t (decide_eq_true (by omega))) ?_
    cases sqF (strAV line) == []
    · refine Eq.trans (cond_f rfl) (Eq.trans (cond_t (and_t (decide_eq_true he) (and_t (decide_eq_true (by omega)) (decide_eq_true (by rw [h2]; omega))))) (Eq.trans (cond_t (decide_eq_true (by rw [hr]; omega))) (Eq.trans (cond_t (decide_eq_true (by rw [ha, h2]; omega))) (Eq.trans (cond_t (room5 (by rw [hb3]; omega))) rfl))))
    · rfl
  · cases h'
end Go.Proofs.YthdhfmdhjanoaaaGreatDoor


namespace Go.Proofs.YthdhfmdhjanoaaaGreatDoor
open Go.Ev
def cbi (cs : List AV) : Int := Lib.index (strAV cs) [13, 10]
def cbL : Nat → List AV → List AV × Int → List AV × List AV × Int
  | 0, cs, o => (cs, o)
  | f + 1, cs, o => bif decide (cbi cs < 0) then (cs, o) else cbL f (cs.drop ((cbi cs).toNat + 2)) (rnd o (cs.take (cbi cs).toNat))
theorem cbL_step (f : Nat) (cs : List AV) (o : List AV × Int) : cbL (f + 1) cs o = bif decide (cbi cs < 0) then (cs, o) else cbL f (cs.drop ((cbi cs).toNat + 2)) (rnd o (cs.take (cbi cs).toNat)) := rfl
theorem cbi_room {cs : List AV} (h : 0 ≤ cbi cs) : (cbi cs).toNat + 2 ≤ cs.length := by
  have := Lib.index_room (strAV cs) [13, 10] h
  rw [strAV_len] at this
  have h2 : ([13, 10] : List UInt8).length = 2 := rfl
  rw [h2] at this
  unfold cbi at h ⊢
  omega
theorem cbL_fuel : ∀ (f g : Nat) (cs : List AV) (o : List AV × Int), cs.length ≤ f → cs.length ≤ g → cbL f cs o = cbL g cs o
  | 0, g, cs, o, hf, _ => by
    obtain rfl : cs = [] := List.eq_nil_of_length_eq_zero (by omega)
    cases g <;> rfl
  | f + 1, 0, cs, o, _, hg => by
    obtain rfl : cs = [] := List.eq_nil_of_length_eq_zero (by omega)
    rfl
  | f + 1, g + 1, cs, o, hf, hg => by
    rw [cbL_step, cbL_step]
    by_cases h : cbi cs < 0
    · rw [decide_eq_true h]; rfl
    · have := cbi_room (cs := cs) (by omega)
      rw [cbL_fuel f g _ _ (by rw [List.length_drop]; omega) (by rw [List.length_drop]; omega)]
noncomputable def G114 : Env := { pure := [(116, ofT F116)], yld := some (0, 1, ofX FY) }
theorem g114 : GOK Tryz.prog G114 := GOK.yields (GOK.also g0 ok116) (by kernel_rfl) yokY
noncomputable def b114 : Code := ((Tryz.f114.body.map loopsOf).getD []).headD .skip
noncomputable def c114 : Code := (((Tryz.f114.body.map loopsOf).getD []).tail).headD .skip
def l114b : Ev.Loop := ⟨{ len := 63, slots := [0, 1, 2, 3] }, ofL fun _ _ => .no⟩
def L114 : List AV → List (Option Row) → Tr LOut
  | [.own 1125899906842624, .ptr 1125899906842627 0, .ptr 1125899906842628 0, .ptr 1125899906842629 0], [some (.box false [.tup [.int .i64 0], .slv (.int .u8) bs, .undef, .slz (.int .u8), .ptr 1125899906842625 0, .ptr 1125899906842626 0, .undef, .undef, .slv (.int .u8) bs', .unk, .unk, .fn 114 [.ptr 1125899906842627 0, .ptr 1125899906842628 0, .ptr 1125899906842629 0], .undef, .undef, .undef, .undef, .undef, .undef, .undef, .undef, .undef, .undef, .undef, .undef, .undef, .undef, .undef, .undef]), some (.box false [.own 901]), some (.box false [.int .i64 e]), some (.box false [.slv (.int .u8) [.int .u8 13, .int .u8 10]]), some (.box false [.slv (.int .u8) cs]), some (.box false [.int .i64 0]), some (.arr false (.int .u8) e5 out none)] =>
    .gd (decide (e5 = 5 ∧ 0 ≤ e ∧ out.length + 2 * e.toNat + 3 * cs.length ≤ 1000000) && cs.all bE)
      (.leaf (.exit 2, [.own 1125899906842624, .ptr 1125899906842627 0, .ptr 1125899906842628 0, .ptr 1125899906842629 0], [some (.box false [.tup [.int .i64 0], .slv (.int .u8) bs, .undef, .slz (.int .u8), .ptr 1125899906842625 0, .ptr 1125899906842626 0, .undef, .undef, .slv (.int .u8) bs', .unk, .unk, .fn 114 [.ptr 1125899906842627 0, .ptr 1125899906842628 0, .ptr 1125899906842629 0], .undef, .undef, .undef, .undef, .undef, .undef, .undef, .undef, .undef, .undef, .undef, .undef, .undef, .undef, .undef, .undef]), some (.box false [.own 901]), some (.box false [.int .i64 (cbL cs.length cs (out, e)).2.2]), some (.box false [.slv (.int .u8) [.int .u8 13, .int .u8 10]]), some (.box false [.slv (.int .u8) (cbL cs.length cs (out, e)).1]), some (.box false [.int .i64 0]), some (.arr false (.int .u8) e5 (cbL cs.length cs (out, e)).2.1 none)]))
  | _, _ => .no
def l114 : Ev.Loop := ⟨{ len := 63, slots := [0, 1, 2, 3], rows := [1125899906842624, 1125899906842625, 1125899906842626, 1125899906842627, 1125899906842628, 1125899906842629, 901], cells := [(1125899906842625, 0, 901, 5)] }, ofL L114⟩
def μ114 (_ : List AV) (rs : List (Option Row)) : Nat := match rs with
  | [_, _, _, _, some (.box _ [.slv _ cs]), _, _] => cs.length
  | _ => 0
theorem loop114b (K : List (Nat × Ev.Loop)) : LoopOK Tryz.prog G114 K b114 l114b := by
  refine loopOK_of g114.natOK rfl (KOK.nil (by kernel_rfl)) (fun _ _ => 0) (fun ρ vs rs k r h => ?_) (fun _ vs rs k => rfl)
  cases h
theorem loop114 : LoopOK Tryz.prog G114 [(1, l114b), (5, l114)] c114 l114 := by
  refine loopT g114.natOK rfl (KOK.nil (by kernel_rfl)) μ114 (fun ρ vs rs k r h => ?_)
  unfold L114 at h
  split at h
  · rename_i bs bs' e cs e5 out
    obtain ⟨hc, hk⟩ := gd_some h
    simp only [Bool.and_eq_true] at hc
    obtain ⟨hb0, hall⟩ := hc
    obtain ⟨rfl, he, hb⟩ := of_decide_eq_true hb0
    clear hb0
    refine Eq.trans (b := bif decide (cs.length < (4294967281 : Nat)) && (decide ((2 : Nat) ≤ [AV.int IntKind.u8 (13 : Int), AV.int IntKind.u8 (10 : Int)].length) && (decide ([AV.int IntKind.u8 (13 : Int), AV.int IntKind.u8 (10 : Int)].length ≤ (9223372036854775807 : Nat)) && (cs.all bE && [AV.int IntKind.u8 (13 : Int), AV.int IntKind.u8 (10 : Int)].all bE))) then bif decide (Lib.index (strAV cs) (strAV [AV.int IntKind.u8 (13 : Int), AV.int IntKind.u8 (10 : Int)]) < (0 : Int)) then k (Ex.exit (2 : Nat)) [AV.own (1125899906842624 : Nat), AV.ptr (1125899906842627 : Nat) (0 : Nat), AV.ptr (1125899906842628 : Nat) (0 : Nat), AV.ptr (1125899906842629 : Nat) (0 : Nat)] [some (Row.box false [AV.tup [AV.int IntKind.i64 (0 : Int)], AV.slv (Sh.int IntKind.u8) bs, AV.undef, AV.slz (Sh.int IntKind.u8), AV.ptr (1125899906842625 : Nat) (0 : Nat), AV.ptr (1125899906842626 : Nat) (0 : Nat), AV.undef, AV.undef, AV.slv (Sh.int IntKind.u8) bs', AV.unk, AV.unk, AV.fn (114 : Nat) [AV.ptr (1125899906842627 : Nat) (0 : Nat), AV.ptr (1125899906842628 : Nat) (0 : Nat), AV.ptr (1125899906842629 : Nat) (0 : Nat)], AV.undef, AV.undef, AV.undef, AV.undef, AV.undef, AV.undef, AV.undef, AV.undef, AV.undef, AV.undef, AV.undef, AV.undef, AV.undef, AV.undef, AV.undef, AV.undef]), some (Row.box false [AV.own (901 : Nat)]), some (Row.box false [AV.int IntKind.i64 e]), some (Row.box false [AV.slv (Sh.int IntKind.u8) [AV.int IntKind.u8 (13 : Int), AV.int IntKind.u8 (10 : Int)]]), some (Row.box false [AV.slv (Sh.int IntKind.u8) cs]), some (Row.box false [AV.int IntKind.i64 (0 : Int)]), some (Row.arr false (Sh.int IntKind.u8) (5 : Nat) out none)] else bif slb (0 : Int) (IntKind.i64.wrap (Lib.index (strAV cs) (strAV [AV.int IntKind.u8 (13 : Int), AV.int IntKind.u8 (10 : Int)]) + (0 : Int))) cs.length then bif (↑(List.take ((IntKind.i64.wrap (Lib.index (strAV cs) (strAV [AV.int IntKind.u8 (13 : Int), AV.int IntKind.u8 (10 : Int)]) + (0 : Int))).toNat - Int.toNat (0 : Int)) (List.drop (0 : Nat) cs)).length : Int) == (↑(List.take ((IntKind.i64.wrap (Lib.index (strAV cs) (strAV [AV.int IntKind.u8 (13 : Int), AV.int IntKind.u8 (10 : Int)]) + (0 : Int))).toNat - Int.toNat (0 : Int)) (List.drop (0 : Nat) cs)).length : Int) && (decide ((0 : Int) ≤ (↑(List.take ((IntKind.i64.wrap (Lib.index (strAV cs) (strAV [AV.int IntKind.u8 (13 : Int), AV.int IntKind.u8 (10 : Int)]) + (0 : Int))).toNat - Int.toNat (0 : Int)) (List.drop (0 : Nat) cs)).length : Int)) && decide ((↑(List.take ((IntKind.i64.wrap (Lib.index (strAV cs) (strAV [AV.int IntKind.u8 (13 : Int), AV.int IntKind.u8 (10 : Int)]) + (0 : Int))).toNat - Int.toNat (0 : Int)) (List.drop (0 : Nat) cs)).length : Int) ≤ (↑(List.take ((IntKind.i64.wrap (Lib.index (strAV cs) (strAV [AV.int IntKind.u8 (13 : Int), AV.int IntKind.u8 (10 : Int)]) + (0 : Int))).toNat - Int.toNat (0 : Int)) (List.drop (0 : Nat) cs)).length : Int))) then bif (fun x => PID + x) (0 : Nat) == PID && ((0 : Int) == (0 : Int) && decide ((5 : TypeId) = (5 : TypeId) ∧ (0 : Int) ≤ e ∧ out.length + (2 : Nat) * e.toNat + (List.take (↑(List.take ((IntKind.i64.wrap (Lib.index (strAV cs) (strAV [AV.int IntKind.u8 (13 : Int), AV.int IntKind.u8 (10 : Int)]) + (0 : Int))).toNat - Int.toNat (0 : Int)) (List.drop (0 : Nat) cs)).length : Int).toNat (List.take ((IntKind.i64.wrap (Lib.index (strAV cs) (strAV [AV.int IntKind.u8 (13 : Int), AV.int IntKind.u8 (10 : Int)]) + (0 : Int))).toNat - Int.toNat (0 : Int)) (List.drop (0 : Nat) cs))).length ≤ (10000000000 : Nat))) then bif sqF (strAV (List.take (↑(List.take ((IntKind.i64.wrap (Lib.index (strAV cs) (strAV [AV.int IntKind.u8 (13 : Int), AV.int IntKind.u8 (10 : Int)]) + (0 : Int))).toNat - Int.toNat (0 : Int)) (List.drop (0 : Nat) cs)).length : Int).toNat (List.take ((IntKind.i64.wrap (Lib.index (strAV cs) (strAV [AV.int IntKind.u8 (13 : Int), AV.int IntKind.u8 (10 : Int)]) + (0 : Int))).toNat - Int.toNat (0 : Int)) (List.drop (0 : Nat) cs)))) == [] then bif slb (IntKind.i64.wrap (Lib.index (strAV cs) (strAV [AV.int IntKind.u8 (13 : Int), AV.int IntKind.u8 (10 : Int)]) + (↑[AV.int IntKind.u8 (13 : Int), AV.int IntKind.u8 (10 : Int)].length : Int))) (↑cs.length : Int) cs.length then bif decide ((List.take ((↑cs.length : Int).toNat - (IntKind.i64.wrap (Lib.index (strAV cs) (strAV [AV.int IntKind.u8 (13 : Int), AV.int IntKind.u8 (10 : Int)]) + (↑[AV.int IntKind.u8 (13 : Int), AV.int IntKind.u8 (10 : Int)].length : Int))).toNat) (List.drop (IntKind.i64.wrap (Lib.index (strAV cs) (strAV [AV.int IntKind.u8 (13 : Int), AV.int IntKind.u8 (10 : Int)]) + (↑[AV.int IntKind.u8 (13 : Int), AV.int IntKind.u8 (10 : Int)].length : Int))).toNat cs)).length < cs.length) then bif decide ((5 : TypeId) = (5 : TypeId) ∧ (0 : Int) ≤ e + (1 : Int) ∧ out.length + (2 : Nat) * (e + (1 : Int)).toNat + (3 : Nat) * (List.take ((↑cs.length : Int).toNat - (IntKind.i64.wrap (Lib.index (strAV cs) (strAV [AV.int IntKind.u8 (13 : Int), AV.int IntKind.u8 (10 : Int)]) + (↑[AV.int IntKind.u8 (13 : Int), AV.int IntKind.u8 (10 : Int)].length : Int))).toNat) (List.drop (IntKind.i64.wrap (Lib.index (strAV cs) (strAV [AV.int IntKind.u8 (13 : Int), AV.int IntKind.u8 (10 : Int)]) + (↑[AV.int IntKind.u8 (13 : Int), AV.int IntKind.u8 (10 : Int)].length : Int))).toNat cs)).length ≤ (1000000 : Nat)) && (List.take ((↑cs.length : Int).toNat - (IntKind.i64.wrap (Lib.index (strAV cs) (strAV [AV.int IntKind.u8 (13 : Int), AV.int IntKind.u8 (10 : Int)]) + (↑[AV.int IntKind.u8 (13 : Int), AV.int IntKind.u8 (10 : Int)].length : Int))).toNat) (List.drop (IntKind.i64.wrap (Lib.index (strAV cs) (strAV [AV.int IntKind.u8 (13 : Int), AV.int IntKind.u8 (10 : Int)]) + (↑[AV.int IntKind.u8 (13 : Int), AV.int IntKind.u8 (10 : Int)].length : Int))).toNat cs)).all bE then k (Ex.exit (2 : Nat)) [AV.own (1125899906842624 : Nat), AV.ptr (1125899906842627 : Nat) (0 : Nat), AV.ptr (1125899906842628 : Nat) (0 : Nat), AV.ptr (1125899906842629 : Nat) (0 : Nat)] [some (Row.box false [AV.tup [AV.int IntKind.i64 (0 : Int)], AV.slv (Sh.int IntKind.u8) bs, AV.undef, AV.slz (Sh.int IntKind.u8), AV.ptr (1125899906842625 : Nat) (0 : Nat), AV.ptr (1125899906842626 : Nat) (0 : Nat), AV.undef, AV.undef, AV.slv (Sh.int IntKind.u8) bs', AV.unk, AV.unk, AV.fn (114 : Nat) [AV.ptr (1125899906842627 : Nat) (0 : Nat), AV.ptr (1125899906842628 : Nat) (0 : Nat), AV.ptr (1125899906842629 : Nat) (0 : Nat)], AV.undef, AV.undef, AV.undef, AV.undef, AV.undef, AV.undef, AV.undef, AV.undef, AV.undef, AV.undef, AV.undef, AV.undef, AV.undef, AV.undef, AV.undef, AV.undef]), some (Row.box false [AV.own (901 : Nat)]), some (Row.box false [AV.int IntKind.i64 (cbL (List.take ((↑cs.length : Int).toNat - (IntKind.i64.wrap (Lib.index (strAV cs) (strAV [AV.int IntKind.u8 (13 : Int), AV.int IntKind.u8 (10 : Int)]) + (↑[AV.int IntKind.u8 (13 : Int), AV.int IntKind.u8 (10 : Int)].length : Int))).toNat) (List.drop (IntKind.i64.wrap (Lib.index (strAV cs) (strAV [AV.int IntKind.u8 (13 : Int), AV.int IntKind.u8 (10 : Int)]) + (↑[AV.int IntKind.u8 (13 : Int), AV.int IntKind.u8 (10 : Int)].length : Int))).toNat cs)).length (List.take ((↑cs.length : Int).toNat - (IntKind.i64.wrap (Lib.index (strAV cs) (strAV [AV.int IntKind.u8 (13 : Int), AV.int IntKind.u8 (10 : Int)]) + (↑[AV.int IntKind.u8 (13 : Int), AV.int IntKind.u8 (10 : Int)].length : Int))).toNat) (List.drop (IntKind.i64.wrap (Lib.index (strAV cs) (strAV [AV.int IntKind.u8 (13 : Int), AV.int IntKind.u8 (10 : Int)]) + (↑[AV.int IntKind.u8 (13 : Int), AV.int IntKind.u8 (10 : Int)].length : Int))).toNat cs)) (out, e + (1 : Int))).snd.snd]), some (Row.box false [AV.slv (Sh.int IntKind.u8) [AV.int IntKind.u8 (13 : Int), AV.int IntKind.u8 (10 : Int)]]), some (Row.box false [AV.slv (Sh.int IntKind.u8) (cbL (List.take ((↑cs.length : Int).toNat - (IntKind.i64.wrap (Lib.index (strAV cs) (strAV [AV.int IntKind.u8 (13 : Int), AV.int IntKind.u8 (10 : Int)]) + (↑[AV.int IntKind.u8 (13 : Int), AV.int IntKind.u8 (10 : Int)].length : Int))).toNat) (List.drop (IntKind.i64.wrap (Lib.index (strAV cs) (strAV [AV.int IntKind.u8 (13 : Int), AV.int IntKind.u8 (10 : Int)]) + (↑[AV.int IntKind.u8 (13 : Int), AV.int IntKind.u8 (10 : Int)].length : Int))).toNat cs)).length (List.take ((↑cs.length : Int).toNat - (IntKind.i64.wrap (Lib.index (strAV cs) (strAV [AV.int IntKind.u8 (13 : Int), AV.int IntKind.u8 (10 : Int)]) + (↑[AV.int IntKind.u8 (13 : Int), AV.int IntKind.u8 (10 : Int)].length : Int))).toNat) (List.drop (IntKind.i64.wrap (Lib.index (strAV cs) (strAV [AV.int IntKind.u8 (13 : Int), AV.int IntKind.u8 (10 : Int)]) + (↑[AV.int IntKind.u8 (13 : Int), AV.int IntKind.u8 (10 : Int)].length : Int))).toNat cs)) (out, e + (1 : Int))).fst]), some (Row.box false [AV.int IntKind.i64 (0 : Int)]), some (Row.arr false (Sh.int IntKind.u8) (5 : Nat) (cbL (List.take ((↑cs.length : Int).toNat - (IntKind.i64.wrap (Lib.index (strAV cs) (strAV [AV.int IntKind.u8 (13 : Int), AV.int IntKind.u8 (10 : Int)]) + (↑[AV.int IntKind.u8 (13 : Int), AV.int IntKind.u8 (10 : Int)].length : Int))).toNat) (List.drop (IntKind.i64.wrap (Lib.index (strAV cs) (strAV [AV.int IntKind.u8 (13 : Int), AV.int IntKind.u8 (10 : Int)]) + (↑[AV.int IntKind.u8 (13 : Int), AV.int IntKind.u8 (10 : Int)].length : Int))).toNat cs)).length (List.take ((↑cs.length : Int).toNat - (IntKind.i64.wrap (Lib.index (strAV cs) (strAV [AV.int IntKind.u8 (13 : Int), AV.int IntKind.u8 (10 : Int)]) + (↑[AV.int IntKind.u8 (13 : Int), AV.int IntKind.u8 (10 : Int)].length : Int))).toNat) (List.drop (IntKind.i64.wrap (Lib.index (strAV cs) (strAV [AV.int IntKind.u8 (13 : Int), AV.int IntKind.u8 (10 : Int)]) + (↑[AV.int IntKind.u8 (13 : Int), AV.int IntKind.u8 (10 : Int)].length : Int))).toNat cs)) (out, e + (1 : Int))).snd.fst none)] else none else none else none else bif slb (IntKind.i64.wrap (Lib.index (strAV cs) (strAV [AV.int IntKind.u8 (13 : Int), AV.int IntKind.u8 (10 : Int)]) + (↑[AV.int IntKind.u8 (13 : Int), AV.int IntKind.u8 (10 : Int)].length : Int))) (↑cs.length : Int) cs.length then bif decide ((List.take ((↑cs.length : Int).toNat - (IntKind.i64.wrap (Lib.index (strAV cs) (strAV [AV.int IntKind.u8 (13 : Int), AV.int IntKind.u8 (10 : Int)]) + (↑[AV.int IntKind.u8 (13 : Int), AV.int IntKind.u8 (10 : Int)].length : Int))).toNat) (List.drop (IntKind.i64.wrap (Lib.index (strAV cs) (strAV [AV.int IntKind.u8 (13 : Int), AV.int IntKind.u8 (10 : Int)]) + (↑[AV.int IntKind.u8 (13 : Int), AV.int IntKind.u8 (10 : Int)].length : Int))).toNat cs)).length < cs.length) then bif decide ((5 : TypeId) = (5 : TypeId) ∧ (0 : Int) ≤ (0 : Int) ∧ (out ++ bytesAV (Lib.repeatL [(13 : UInt8), (10 : UInt8)] e.toNat ++ sqF (strAV (List.take (↑(List.take ((IntKind.i64.wrap (Lib.index (strAV cs) (strAV [AV.int IntKind.u8 (13 : Int), AV.int IntKind.u8 (10 : Int)]) + (0 : Int))).toNat - Int.toNat (0 : Int)) (List.drop (0 : Nat) cs)).length : Int).toNat (List.take ((IntKind.i64.wrap (Lib.index (strAV cs) (strAV [AV.int IntKind.u8 (13 : Int), AV.int IntKind.u8 (10 : Int)]) + (0 : Int))).toNat - Int.toNat (0 : Int)) (List.drop (0 : Nat) cs)))) ++ [(13 : UInt8), (10 : UInt8)])).length + (2 : Nat) * Int.toNat (0 : Int) + (3 : Nat) * (List.take ((↑cs.length : Int).toNat - (IntKind.i64.wrap (Lib.index (strAV cs) (strAV [AV.int IntKind.u8 (13 : Int), AV.int IntKind.u8 (10 : Int)]) + (↑[AV.int IntKind.u8 (13 : Int), AV.int IntKind.u8 (10 : Int)].length : Int))).toNat) (List.drop (IntKind.i64.wrap (Lib.index (strAV cs) (strAV [AV.int IntKind.u8 (13 : Int), AV.int IntKind.u8 (10 : Int)]) + (↑[AV.int IntKind.u8 (13 : Int), AV.int IntKind.u8 (10 : Int)].length : Int))).toNat cs)).length ≤ (1000000 : Nat)) && (List.take ((↑cs.length : Int).toNat - (IntKind.i64.wrap (Lib.index (strAV cs) (strAV [AV.int IntKind.u8 (13 : Int), AV.int IntKind.u8 (10 : Int)]) + (↑[AV.int IntKind.u8 (13 : Int), AV.int IntKind.u8 (10 : Int)].length : Int))).toNat) (List.drop (IntKind.i64.wrap (Lib.index (strAV cs) (strAV [AV.int IntKind.u8 (13 : Int), AV.int IntKind.u8 (10 : Int)]) + (↑[AV.int IntKind.u8 (13 : Int), AV.int IntKind.u8 (10 : Int)].length : Int))).toNat cs)).all bE then k (Ex.exit (2 : Nat)) [AV.own (1125899906842624 : Nat), AV.ptr (1125899906842627 : Nat) (0 : Nat), AV.ptr (1125899906842628 : Nat) (0 : Nat), AV.ptr (1125899906842629 : Nat) (0 : Nat)] [some (Row.box false [AV.tup [AV.int IntKind.i64 (0 : Int)], AV.slv (Sh.int IntKind.u8) bs, AV.undef, AV.slz (Sh.int IntKind.u8), AV.ptr (1125899906842625 : Nat) (0 : Nat), AV.ptr (1125899906842626 : Nat) (0 : Nat), AV.undef, AV.undef, AV.slv (Sh.int IntKind.u8) bs', AV.unk, AV.unk, AV.fn (114 : Nat) [AV.ptr (1125899906842627 : Nat) (0 : Nat), AV.ptr (1125899906842628 : Nat) (0 : Nat), AV.ptr (1125899906842629 : Nat) (0 : Nat)], AV.undef, AV.undef, AV.undef, AV.undef, AV.undef, AV.undef, AV.undef, AV.undef, AV.undef, AV.undef, AV.undef, AV.undef, AV.undef, AV.undef, AV.undef, AV.undef]), some (Row.box false [AV.own (901 : Nat)]), some (Row.box false [AV.int IntKind.i64 (cbL (List.take ((↑cs.length : Int).toNat - (IntKind.i64.wrap (Lib.index (strAV cs) (strAV [AV.int IntKind.u8 (13 : Int), AV.int IntKind.u8 (10 : Int)]) + (↑[AV.int IntKind.u8 (13 : Int), AV.int IntKind.u8 (10 : Int)].length : Int))).toNat) (List.drop (IntKind.i64.wrap (Lib.index (strAV cs) (strAV [AV.int IntKind.u8 (13 : Int), AV.int IntKind.u8 (10 : Int)]) + (↑[AV.int IntKind.u8 (13 : Int), AV.int IntKind.u8 (10 : Int)].length : Int))).toNat cs)).length (List.take ((↑cs.length : Int).toNat - (IntKind.i64.wrap (Lib.index (strAV cs) (strAV [AV.int IntKind.u8 (13 : Int), AV.int IntKind.u8 (10 : Int)]) + (↑[AV.int IntKind.u8 (13 : Int), AV.int IntKind.u8 (10 : Int)].length : Int))).toNat) (List.drop (IntKind.i64.wrap (Lib.index (strAV cs) (strAV [AV.int IntKind.u8 (13 : Int), AV.int IntKind.u8 (10 : Int)]) + (↑[AV.int IntKind.u8 (13 : Int), AV.int IntKind.u8 (10 : Int)].length : Int))).toNat cs)) (out ++ bytesAV (Lib.repeatL [(13 : UInt8), (10 : UInt8)] e.toNat ++ sqF (strAV (List.take (↑(List.take ((IntKind.i64.wrap (Lib.index (strAV cs) (strAV [AV.int IntKind.u8 (13 : Int), AV.int IntKind.u8 (10 : Int)]) + (0 : Int))).toNat - Int.toNat (0 : Int)) (List.drop (0 : Nat) cs)).length : Int).toNat (List.take ((IntKind.i64.wrap (Lib.index (strAV cs) (strAV [AV.int IntKind.u8 (13 : Int), AV.int IntKind.u8 (10 : Int)]) + (0 : Int))).toNat - Int.toNat (0 : Int)) (List.drop (0 : Nat) cs)))) ++ [(13 : UInt8), (10 : UInt8)]), (0 : Int))).snd.snd]), some (Row.box false [AV.slv (Sh.int IntKind.u8) [AV.int IntKind.u8 (13 : Int), AV.int IntKind.u8 (10 : Int)]]), some (Row.box false [AV.slv (Sh.int IntKind.u8) (cbL (List.take ((↑cs.length : Int).toNat - (IntKind.i64.wrap (Lib.index (strAV cs) (strAV [AV.int IntKind.u8 (13 : Int), AV.int IntKind.u8 (10 : Int)]) + (↑[AV.int IntKind.u8 (13 : Int), AV.int IntKind.u8 (10 : Int)].length : Int))).toNat) (List.drop (IntKind.i64.wrap (Lib.index (strAV cs) (strAV [AV.int IntKind.u8 (13 : Int), AV.int IntKind.u8 (10 : Int)]) + (↑[AV.int IntKind.u8 (13 : Int), AV.int IntKind.u8 (10 : Int)].length : Int))).toNat cs)).length (List.take ((↑cs.length : Int).toNat - (IntKind.i64.wrap (Lib.index (strAV cs) (strAV [AV.int IntKind.u8 (13 : Int), AV.int IntKind.u8 (10 : Int)]) + (↑[AV.int IntKind.u8 (13 : Int), AV.int IntKind.u8 (10 : Int)].length : Int))).toNat) (List.drop (IntKind.i64.wrap (Lib.index (strAV cs) (strAV [AV.int IntKind.u8 (13 : Int), AV.int IntKind.u8 (10 : Int)]) + (↑[AV.int IntKind.u8 (13 : Int), AV.int IntKind.u8 (10 : Int)].length : Int))).toNat cs)) (out ++ bytesAV (Lib.repeatL [(13 : UInt8), (10 : UInt8)] e.toNat ++ sqF (strAV (List.take (↑(List.take ((IntKind.i64.wrap (Lib.index (strAV cs) (strAV [AV.int IntKind.u8 (13 : Int), AV.int IntKind.u8 (10 : Int)]) + (0 : Int))).toNat - Int.toNat (0 : Int)) (List.drop (0 : Nat) cs)).length : Int).toNat (List.take ((IntKind.i64.wrap (Lib.index (strAV cs) (strAV [AV.int IntKind.u8 (13 : Int), AV.int IntKind.u8 (10 : Int)]) + (0 : Int))).toNat - Int.toNat (0 : Int)) (List.drop (0 : Nat) cs)))) ++ [(13 : UInt8), (10 : UInt8)]), (0 : Int))).fst]), some (Row.box false [AV.int IntKind.i64 (0 : Int)]), some (Row.arr false (Sh.int IntKind.u8) (5 : Nat) (cbL (List.take ((↑cs.length : Int).toNat - (IntKind.i64.wrap (Lib.index (strAV cs) (strAV [AV.int IntKind.u8 (13 : Int), AV.int IntKind.u8 (10 : Int)]) + (↑[AV.int IntKind.u8 (13 : Int), AV.int IntKind.u8 (10 : Int)].length : Int))).toNat) (List.drop (IntKind.i64.wrap (Lib.index (strAV cs) (strAV [AV.int IntKind.u8 (13 : Int), AV.int IntKind.u8 (10 : Int)]) + (↑[AV.int IntKind.u8 (13 : Int), AV.int IntKind.u8 (10 : Int)].length : Int))).toNat cs)).length (List.take ((↑cs.length : Int).toNat - (IntKind.i64.wrap (Lib.index (strAV cs) (strAV [AV.int IntKind.u8 (13 : Int), AV.int IntKind.u8 (10 : Int)]) + (↑[AV.int IntKind.u8 (13 : Int), AV.int IntKind.u8 (10 : Int)].length : Int))).toNat) (List.drop (IntKind.i64.wrap (Lib.index (strAV cs) (strAV [AV.int IntKind.u8 (13 : Int), AV.int IntKind.u8 (10 : Int)]) + (↑[AV.int IntKind.u8 (13 : Int), AV.int IntKind.u8 (10 : Int)].length : Int))).toNat cs)) (out ++ bytesAV (Lib.repeatL [(13 : UInt8), (10 : UInt8)] e.toNat ++ sqF (strAV (List.take (↑(List.take ((IntKind.i64.wrap (Lib.index (strAV cs) (strAV [AV.int IntKind.u8 (13 : Int), AV.int IntKind.u8 (10 : Int)]) + (0 : Int))).toNat - Int.toNat (0 : Int)) (List.drop (0 : Nat) cs)).length : Int).toNat (List.take ((IntKind.i64.wrap (Lib.index (strAV cs) (strAV [AV.int IntKind.u8 (13 : Int), AV.int IntKind.u8 (10 : Int)]) + (0 : Int))).toNat - Int.toNat (0 : Int)) (List.drop (0 : Nat) cs)))) ++ [(13 : UInt8), (10 : UInt8)]), (0 : Int))).snd.fst none)] else none else none else none else none else none else none else none) (by kernel_rfl) ?_
    rw [← hk]
    have hx : Lib.index (strAV cs) (strAV [.int .u8 13, .int .u8 10]) = cbi cs := rfl
    have h2 : ([.int .u8 13, .int .u8 10] : List AV).length = 2 := rfl
    have hb2 : ([.int .u8 13, .int .u8 10] : List AV).all bE = true := rfl
    have hc0 : (decide (cs.length < 4294967281) && (decide (2 ≤ ([.int .u8 13, .int .u8 10] : List AV).length) && (decide (([.int .u8 13, .int .u8 10] : List AV).length ≤ 9223372036854775807) && (cs.all bE && ([.int .u8 13, .int .u8 10] : List AV).all bE)))) = true := and_t (decide_eq_true (by omega)) (and_t (decide_eq_true (by rw [h2]; omega)) (and_t (decide_eq_true (by rw [h2]; omega)) (and_t hall hb2)))
    refine Eq.trans (cond_t hc0) ?_
    rw [hx]
    by_cases hneg : cbi cs < 0
    · have : cbL cs.length cs (out, e) = (cs, out, e) := by
        rw [cbL_fuel cs.length (cs.length + 1) cs _ (Nat.le_refl _) (by omega), cbL_step, decide_eq_true hneg]; rfl
      rw [decide_eq_true hneg, this]
      rfl
    · have hroom := cbi_room (cs := cs) (by omega)
      obtain ⟨m, hm⟩ : ∃ m : Nat, cbi cs = m := ⟨(cbi cs).toNat, by omega⟩
      rw [hm, Int.toNat_natCast] at hroom
      have w1 : IntKind.i64.wrap ((m : Int) + 0) = (m : Int) := by rw [wrap_mid _ (by omega) (by omega)]; omega
      have w2 : IntKind.i64.wrap ((m : Int) + ((2 : Nat) : Int)) = ((m + 2 : Nat) : Int) := by rw [wrap_mid _ (by omega) (by omega)]; omega
      have t1 : List.take (m - Int.toNat 0) (List.drop 0 cs) = cs.take m := rfl
      have t2 : List.take ((cs.length : Int).toNat - (m + 2)) (cs.drop (m + 2)) = cs.drop (m + 2) := List.take_of_length_le (by rw [List.length_drop]; omega)
      have tl : (cs.take m).length = m := by rw [List.length_take]; omega
      have t3 : List.take m (cs.take m) = cs.take m := by rw [List.take_take, Nat.min_self]
      have hd : (cs.drop (m + 2)).length = cs.length - (m + 2) := List.length_drop
      have hda : (cs.drop (m + 2)).all bE = true := List.all_eq_true.2 fun x hx => List.all_eq_true.1 hall x (List.mem_of_mem_drop hx)
      have hcb : cbL cs.length cs (out, e) = cbL (cs.length - (m + 2)) (cs.drop (m + 2)) (rnd (out, e) (cs.take m)) := by
        rw [cbL_fuel cs.length (cs.length + 1) cs _ (Nat.le_refl _) (by omega), cbL_step, decide_eq_false hneg, cond_false, hm, Int.toNat_natCast]
        exact cbL_fuel _ _ _ _ (by omega) (by omega)
      have t4 : ((cs.length : Nat) : Int).toNat = cs.length := by omega
      simp only [hm, h2, w1, w2, t1, t4, tl, t3, Int.toNat_natCast] at t2 ⊢
      simp only [t2, hd, hda, Bool.and_true]
      rw [hcb]
      have hq := sqF_len (strAV (cs.take m))
      have hsl : (strAV (cs.take m)).length = m := by rw [strAV_len, tl]
      have g1 : slb 0 (m : Int) cs.length = true := slb_true (by omega) (by omega) (by omega)
      have g2 : ((m : Int) == (m : Int) && (decide (0 ≤ (m : Int)) && decide ((m : Int) ≤ (m : Int)))) = true := and_t (beq_self_eq_true _) (and_t (decide_eq_true (by omega)) (decide_eq_true (by omega)))
      have g3 : slb ((m + 2 : Nat) : Int) (cs.length : Int) cs.length = true := slb_true (by omega) (by omega) (by omega)
      have g4 : decide (cs.length - (m + 2) < cs.length) = true := decide_eq_true (by omega)
      rw [decide_eq_false (show ¬ (m : Int) < 0 by omega), cond_false, g1, cond_true]
      have hr := Lib.repeatL_length [13, 10] e.toNat
      have h22 : ([13, 10] : List UInt8).length = 2 := rfl
      rw [h22] at hr
      have hlen : (bytesAV (Lib.repeatL [13, 10] e.toNat ++ sqF (strAV (cs.take m)) ++ [13, 10])).length = e.toNat * 2 + (sqF (strAV (cs.take m))).length + 2 := by rw [bytesAV_length, List.length_append, List.length_append, hr, h22]
      refine Eq.trans (cond_t g2) (Eq.trans (cond_t (and_t (beq_self_eq_true PID) (and_t rfl (decide_eq_true (And.intro True.intro (And.intro he (by omega))))))) ?_)
      unfold rnd
      cases sqF (strAV (cs.take m)) == []
      · exact Eq.trans (cond_f rfl) (Eq.trans (cond_t g3) (Eq.trans (cond_t g4) (Eq.trans (cond_t (decide_eq_true (And.intro True.intro (And.intro (Int.le_refl _) (by rw [List.length_append, hlen]; show _ + 2 * 0 + _ ≤ _; omega))))) rfl)))
      · exact Eq.trans (cond_t rfl) (Eq.trans (cond_t g3) (Eq.trans (cond_t g4) (Eq.trans (cond_t (decide_eq_true (And.intro True.intro (And.intro (by omega) (by omega))))) rfl)))
  · cases h
theorem cbL_inv : ∀ (f : Nat) (cs out : List AV) (e : Int), 0 ≤ e → out.length + 2 * e.toNat + 3 * cs.length ≤ 1000000 →
    0 ≤ (cbL f cs (out, e)).2.2 ∧ (cbL f cs (out, e)).2.1.length + 2 * (cbL f cs (out, e)).2.2.toNat + 3 * (cbL f cs (out, e)).1.length ≤ 1000000
  | 0, cs, out, e, he, hb => ⟨he, hb⟩
  | f + 1, cs, out, e, he, hb => by
    rw [cbL_step]
    by_cases h : cbi cs < 0
    · rw [decide_eq_true h]; exact ⟨he, hb⟩
    · rw [decide_eq_false h, cond_false]
      have hroom := cbi_room (cs := cs) (by omega)
      have hq := sqF_len (strAV (cs.take (cbi cs).toNat))
      have hsl : (strAV (cs.take (cbi cs).toNat)).length = (cbi cs).toNat := by rw [strAV_len, List.length_take]; omega
      have hr := Lib.repeatL_length [13, 10] e.toNat
      have h22 : ([13, 10] : List UInt8).length = 2 := rfl
      rw [h22] at hr
      have hd : (cs.drop ((cbi cs).toNat + 2)).length = cs.length - ((cbi cs).toNat + 2) := List.length_drop
      unfold rnd
      cases sqF (strAV (cs.take (cbi cs).toNat)) == []
      · refine cbL_inv f _ _ 0 (Int.le_refl _) ?_
        rw [List.length_append, bytesAV_length, List.length_append, List.length_append, hr, h22, hd]
        show out.length + (e.toNat * 2 + (sqF (strAV (cs.take (cbi cs).toNat))).length + 2) + 2 * 0 + 3 * (cs.length - ((cbi cs).toNat + 2)) ≤ 1000000
        omega
      · refine cbL_inv f _ _ (e + 1) (by omega) ?_
        rw [hd]
        show out.length + 2 * (e + 1).toNat + 3 * (cs.length - ((cbi cs).toNat + 2)) ≤ 1000000
        omega
def bdyF (cs : List AV) : List AV × Int := rnd (cbL cs.length cs ([], 0)).2 (cbL cs.length cs ([], 0)).1
def F114 : List AV → List Row → Tr XOut
  | [.own 1125899906842624, .ptr 1125899906842627 0, .ptr 1125899906842628 0, .ptr 1125899906842629 0], [.box false [.tup [.int .i64 0], .slv (.int .u8) bs, .undef, .slz (.int .u8), .ptr 1125899906842625 0, .ptr 1125899906842626 0, .undef, .undef, .slv (.int .u8) bs', .unk, .unk, .fn 114 [.ptr 1125899906842627 0, .ptr 1125899906842628 0, .ptr 1125899906842629 0], .undef, .undef, .undef, .undef, .undef, .undef, .undef, .undef, .undef, .undef, .undef, .undef, .undef, .undef, .undef, .undef], .box false [.slz (.int .u8)], .box false [.int .i64 0], .box false [.slv (.int .u8) [.int .u8 13, .int .u8 10]], .box false [.slv (.int .u8) cs], .box false [.int .i64 0]] =>
    .gd (decide (cs.length ≤ 20000) && cs.all bE) (.leaf (.tup [], [some (.box false [.tup [.int .i64 0], .slv (.int .u8) bs, .undef, .slz (.int .u8), .ptr 1125899906842625 0, .ptr 1125899906842626 0, .undef, .undef, .slv (.int .u8) bs', .unk, .unk, .fn 114 [.ptr 1125899906842627 0, .ptr 1125899906842628 0, .ptr 1125899906842629 0], .undef, .undef, .undef, .undef, .undef, .undef, .undef, .undef, .undef, .undef, .undef, .undef, .undef, .undef, .undef, .undef]), some (.box false [.own RID]), some (.box false [.int .i64 (bdyF cs).2]), some (.box false [.slv (.int .u8) [.int .u8 13, .int .u8 10]]), some (.box false [.slv (.int .u8) (cbL cs.length cs ([], 0)).1]), some (.box false [.int .i64 0])], [.arr false (.int .u8) 5 (bdyF cs).1 none]))
  | _, _ => .no
theorem ok114 : XOK Tryz.prog 114 (ofX F114) ∧ XNat (ofX F114) := by
  refine ⟨xsums (K := [(1, l114b), (5, l114)]) (H := []) (bs := [b114, c114]) g114 Tryz.func114 (by kernel_rfl) (fun b hb => ?_) fun ρ avs rows k r h => ?_, xnat_ofX _⟩
  · rcases List.mem_cons.1 hb with rfl | hb
    · exact ⟨l114b, by kernel_rfl, loop114b _⟩
    · rcases List.mem_cons.1 hb with rfl | hb
      · exact ⟨l114, by kernel_rfl, loop114⟩
      · cases hb
  change (F114 avs rows).run _ = some r at h
  unfold F114 at h
  split at h
  · rename_i bs bs' cs
    obtain ⟨hc, hk⟩ := gd_some h
    simp only [Bool.and_eq_true] at hc
    obtain ⟨hc, hall⟩ := hc
    have hcs : cs.length ≤ 20000 := of_decide_eq_true hc
    refine ⟨by simp, fun rows' hsp => ?_⟩
    obtain rfl : rows' = [.box false [.tup [.int .i64 0], .slv (.int .u8) bs, .undef, .slz (.int .u8), .ptr 1125899906842625 0, .ptr 1125899906842626 0, .undef, .undef, .slv (.int .u8) bs', .unk, .unk, .fn 114 [.ptr 1125899906842627 0, .ptr 1125899906842628 0, .ptr 1125899906842629 0], .undef, .undef, .undef, .undef, .undef, .undef, .undef, .undef, .undef, .undef, .undef, .undef, .undef, .undef, .undef, .undef], .box false [.slz (.int .u8)], .box false [.int .i64 0], .box false [.slv (.int .u8) [.int .u8 13, .int .u8 10]], .box false [.slv (.int .u8) cs], .box false [.int .i64 0]] := by
      match rows', hsp with
      | [r1, r2, r3, r4, r5, r6], ⟨h1, h2, h3, h4, h5, h6, _⟩ => rw [h1, h2, h3, h4, h5, h6]
    refine Eq.trans (b := bif decide (((1125899906842625 : Nat), (0 : Nat), (901 : Nat), (5 : TypeId)).snd.snd.snd = (5 : TypeId) ∧ (0 : Int) ≤ (0 : Int) ∧ ([] : List AV).length + (2 : Nat) * Int.toNat (0 : Int) + (3 : Nat) * cs.length ≤ (1000000 : Nat)) && cs.all bE then bif (↑(cbL cs.length cs ([], (0 : Int))).fst.length : Int) == (↑(cbL cs.length cs ([], (0 : Int))).fst.length : Int) && (decide ((0 : Int) ≤ (↑(cbL cs.length cs ([], (0 : Int))).fst.length : Int)) && decide ((↑(cbL cs.length cs ([], (0 : Int))).fst.length : Int) ≤ (↑(cbL cs.length cs ([], (0 : Int))).fst.length : Int))) then bif (fun x => PID + x) (0 : Nat) == PID && ((0 : Int) == (0 : Int) && decide (((1125899906842625 : Nat), (0 : Nat), (901 : Nat), (5 : TypeId)).snd.snd.snd = (5 : TypeId) ∧ (0 : Int) ≤ (cbL cs.length cs ([], (0 : Int))).snd.snd ∧ (cbL cs.length cs ([], (0 : Int))).snd.fst.length + (2 : Nat) * (cbL cs.length cs ([], (0 : Int))).snd.snd.toNat + (List.take (↑(cbL cs.length cs ([], (0 : Int))).fst.length : Int).toNat (cbL cs.length cs ([], (0 : Int))).fst).length ≤ (10000000000 : Nat))) then bif sqF (strAV (List.take (↑(cbL cs.length cs ([], (0 : Int))).fst.length : Int).toNat (cbL cs.length cs ([], (0 : Int))).fst)) == [] then k (AV.tup []) [some (Row.box false [AV.tup [AV.int IntKind.i64 (0 : Int)], AV.slv (Sh.int IntKind.u8) bs, AV.undef, AV.slz (Sh.int IntKind.u8), AV.ptr (1125899906842625 : Nat) (0 : Nat), AV.ptr (1125899906842626 : Nat) (0 : Nat), AV.undef, AV.undef, AV.slv (Sh.int IntKind.u8) bs', AV.unk, AV.unk, AV.fn (114 : Nat) [AV.ptr (1125899906842627 : Nat) (0 : Nat), AV.ptr (1125899906842628 : Nat) (0 : Nat), AV.ptr (1125899906842629 : Nat) (0 : Nat)], AV.undef, AV.undef, AV.undef, AV.undef, AV.undef, AV.undef, AV.undef, AV.undef, AV.undef, AV.undef, AV.undef, AV.undef, AV.undef, AV.undef, AV.undef, AV.undef]), some (Row.box false [AV.own (2251799813685248 : Nat)]), some (Row.box false [AV.int IntKind.i64 ((cbL cs.length cs ([], (0 : Int))).snd.snd + (1 : Int))]), some (Row.box false [AV.slv (Sh.int IntKind.u8) [AV.int IntKind.u8 (13 : Int), AV.int IntKind.u8 (10 : Int)]]), some (Row.box false [AV.slv (Sh.int IntKind.u8) (cbL cs.length cs ([], (0 : Int))).fst]), some (Row.box false [AV.int IntKind.i64 (0 : Int)])] [Row.arr false (Sh.int IntKind.u8) (5 : Nat) (cbL cs.length cs ([], (0 : Int))).snd.fst none] else k (AV.tup []) [some (Row.box false [AV.tup [AV.int IntKind.i64 (0 : Int)], AV.slv (Sh.int IntKind.u8) bs, AV.undef, AV.slz (Sh.int IntKind.u8), AV.ptr (1125899906842625 : Nat) (0 : Nat), AV.ptr (1125899906842626 : Nat) (0 : Nat), AV.undef, AV.undef, AV.slv (Sh.int IntKind.u8) bs', AV.unk, AV.unk, AV.fn (114 : Nat) [AV.ptr (1125899906842627 : Nat) (0 : Nat), AV.ptr (1125899906842628 : Nat) (0 : Nat), AV.ptr (1125899906842629 : Nat) (0 : Nat)], AV.undef, AV.undef, AV.undef, AV.undef, AV.undef, AV.undef, AV.undef, AV.undef, AV.undef, AV.undef, AV.undef, AV.undef, AV.undef, AV.undef, AV.undef, AV.undef]), some (Row.box false [AV.own (2251799813685248 : Nat)]), some (Row.box false [AV.int IntKind.i64 (0 : Int)]), some (Row.box false [AV.slv (Sh.int IntKind.u8) [AV.int IntKind.u8 (13 : Int), AV.int IntKind.u8 (10 : Int)]]), some (Row.box false [AV.slv (Sh.int IntKind.u8) (cbL cs.length cs ([], (0 : Int))).fst]), some (Row.box false [AV.int IntKind.i64 (0 : Int)])] [Row.arr false (Sh.int IntKind.u8) (5 : Nat) ((cbL cs.length cs ([], (0 : Int))).snd.fst ++ bytesAV (Lib.repeatL [(13 : UInt8), (10 : UInt8)] (cbL cs.length cs ([], (0 : Int))).snd.snd.toNat ++ sqF (strAV (List.take (↑(cbL cs.length cs ([], (0 : Int))).fst.length : Int).toNat (cbL cs.length cs ([], (0 : Int))).fst)) ++ [(13 : UInt8), (10 : UInt8)])) none] else none else none else none) (by kernel_rfl) ?_
    rw [← hk]
    have hi := cbL_inv cs.length cs [] 0 (Int.le_refl _) (by show 0 + 2 * 0 + _ ≤ _; omega)
    unfold bdyF
    generalize cbL cs.length cs ([], 0) = q at hi ⊢
    obtain ⟨cs', out, e⟩ := q
    obtain ⟨i1, i2⟩ := hi
    simp only [] at i1 i2
    have t : List.take ((cs'.length : Nat) : Int).toNat cs' = cs' := List.take_of_length_le (by omega)
    simp only [t]
    refine Eq.trans (cond_t (and_t (decide_eq_true (And.intro True.intro (And.intro (Int.le_refl _) (by show 0 + 2 * 0 + _ ≤ _; omega)))) hall)) (Eq.trans (cond_t (and_t (beq_self_eq_true _) (and_t (decide_eq_true (by omega)) (decide_eq_true (Int.le_refl _))))) (Eq.trans (cond_t (and_t (beq_self_eq_true PID) (and_t rfl (decide_eq_true (And.intro True.intro (And.intro i1 (by omega))))))) ?_))
    unfold rnd
    cases sqF (strAV cs') == [] <;> rfl
  · cases h
end Go.Proofs.YthdhfmdhjanoaaaGreatDoor


namespace Go.Proofs.YthdhfmdhjanoaaaGreatDoor
open Go.Ev
noncomputable def G52 : Env := { pure := [], opens := [(81, ofX F81), (114, ofX F114)], conv := true, rng := some (0, 5000) }
theorem g52 : GOK Tryz.prog G52 := GOK.flags (GOK.alsoX (GOK.alsoX g0 ok114) ok81)
def F52 : List AV → Tr AV
  | [.slv (.int .u8) cs] => .gd (decide (cs.length ≤ 20000) && cs.all bE) (.leaf (.slv (.int .u8) (bdyF cs).1))
  | _ => .no
theorem rng52 : (Tryz.f52.body.map rngsOf) = some [loopCode 0] := by kernel_rfl
theorem ok52 : SumOK Tryz.prog 52 (ofT F52) ∧ SNat (ofT F52) := by
  refine ⟨sumOK_ofR g52 (drawOK g52 (by kernel_rfl)) Tryz.func52 (fun ρ avs k r h => ⟨[], fun c hc => KOK.nil (by
      have h1 : Tryz.f52.body.map loopsOf = some [] := by kernel_rfl
      rw [hc] at h1
      simpa using h1), ?_⟩) (fun c hc key site he => ⟨rfl, fun q hq => ?_⟩), snat_ofT _⟩
  · change (F52 avs).run k = some r at h
    unfold F52 at h
    split at h
    · rename_i cs
      obtain ⟨hc, hk⟩ := gd_some h
      refine Eq.trans (b := bif decide (cs.length ≤ (20000 : Nat)) && cs.all bE then k (AV.slv (Sh.int IntKind.u8) (bdyF cs).fst) else none) (by kernel_rfl) ?_
      rw [← hk, hc]
      rfl
    · cases h
  · have h1 := rng52
    rw [hc] at h1
    simp only [Option.map_some, Option.some.injEq] at h1
    rw [h1] at hq
    simpa [loopCode] using hq
def cbB (cs : List AV) : List AV := bif decide ((cs.length : Int) > 12000) then [] else (bdyF cs).1
def cbC (cs : List AV) : Int := bif decide ((cs.length : Int) > 12000) then 1 else 0
def cbI (cs : List AV) : Int := bif decide ((cs.length : Int) > 12000) then -1 else 0
noncomputable def G23 : Env := { pure := [(52, ofT F52), (43, evF Tryz.prog G0 [] Tryz.f43), (47, evF Tryz.prog G0 [] Tryz.f47)] }
theorem g23 : GOK Tryz.prog G23 := GOK.also (GOK.also (GOK.also g0 (inl g0 Tryz.func47 (by kernel_rfl))) (inl g0 Tryz.func43 (by kernel_rfl))) ok52
def F23 : List AV → Tr AV
  | [.slv (.int .u8) cs] => .gd (cs.all bE) (.leaf (.tup [.slv (.int .u8) (cbB cs), .agg [.int .i64 (cbC cs), .int .i64 (cbI cs)]]))
  | _ => .no
theorem ok23 : SumOK Tryz.prog 23 (ofT F23) ∧ SNat (ofT F23) := by
  refine fn0 g23 Tryz.func23 (by kernel_rfl) fun ρ avs k r h => ?_
  unfold F23 at h
  split at h
  · rename_i cs
    obtain ⟨hc, hk⟩ := gd_some h
    refine Eq.trans (b := bif decide ((↑cs.length : Int) > (12000 : Int)) then k (AV.tup [AV.slv (Sh.int IntKind.u8) [], AV.agg [AV.int IntKind.i64 (1 : Int), AV.int IntKind.i64 (-1 : Int)]]) else bif decide (cs.length ≤ (20000 : Nat)) && cs.all bE then k (AV.tup [AV.slv (Sh.int IntKind.u8) (bdyF cs).fst, AV.agg [AV.int IntKind.i64 (0 : Int), AV.int IntKind.i64 (0 : Int)]]) else none) (by kernel_rfl) ?_
    rw [← hk, hc]
    unfold cbB cbC cbI
    cases h : decide ((cs.length : Int) > 12000)
    · have : cs.length ≤ 20000 := by have := of_decide_eq_false h; omega
      rw [decide_eq_true this]
      rfl
    · rfl
  · cases h
end Go.Proofs.YthdhfmdhjanoaaaGreatDoor

namespace Go.Proofs.YthdhfmdhjanoaaaGreatDoor
open Go.Ev
theorem split_miss {s p : List UInt8} (h : Lib.index s p = -1) : Lib.split s p = [s] := by
  unfold Lib.split
  rw [Lib.count_miss h]; rfl
theorem split_hit {s p : List UInt8} {i : Nat} (hp : p ≠ []) (h : Lib.index s p = i) : Lib.split s p = s.take i :: Lib.split (s.drop (i + p.length)) p := by
  unfold Lib.split
  rw [Lib.count_hit hp h, Nat.add_comm 1, Lib.splitK]
  have hm : ¬ (Lib.index s p == -1) = true := fun e => by have := beq_iff_eq.1 e; omega
  have e : (Lib.index s p).toNat = i := by omega
  rw [if_neg hm, e]; rfl
def cutR (s p : List UInt8) : Nat → Nat → Nat → List (List UInt8)
  | 0, fr, _ => [s.drop fr]
  | f + 1, fr, i => bif decide (i + p.length ≤ s.length) then (bif decide (fr ≤ i) && ((s.drop i).take p.length == p) then (s.drop fr).take (i - fr) :: cutR s p f (i + p.length) (i + 1) else cutR s p f fr (i + 1)) else [s.drop fr]
theorem cutR_step (s p : List UInt8) (f fr i : Nat) : cutR s p (f + 1) fr i = bif decide (i + p.length ≤ s.length) then (bif decide (fr ≤ i) && ((s.drop i).take p.length == p) then (s.drop fr).take (i - fr) :: cutR s p f (i + p.length) (i + 1) else cutR s p f fr (i + 1)) else [s.drop fr] := rfl
theorem cut_none {s p : List UInt8} (hp : p ≠ []) {fr i : Nat} (hn : ∀ j, fr ≤ j → j < i → Lib.occAt s p j = false) (hl : s.length < i + p.length) : Lib.split (s.drop fr) p = [s.drop fr] := by
  refine split_miss (Lib.index_none fun j hj => ?_)
  unfold Lib.occAt at hn ⊢
  rw [List.drop_drop]
  by_cases h : fr + j < i
  · exact hn _ (by omega) h
  · cases ho : p.isPrefixOf (s.drop (fr + j))
    · rfl
    · exfalso
      rcases Lib.occAt_room (i := fr + j) (show Lib.occAt s p (fr + j) = true from ho) with h1 | h1
      · omega
      · exact hp h1
theorem cutR_eq {s p : List UInt8} (hp : p ≠ []) : ∀ (f fr i : Nat), s.length < i + f → fr ≤ i + p.length → fr ≤ s.length → (∀ j, fr ≤ j → j < i → Lib.occAt s p j = false) → cutR s p f fr i = Lib.split (s.drop fr) p
  | 0, fr, i, hf, h1, h2, hn => (cut_none hp hn (by omega)).symm
  | f + 1, fr, i, hf, h1, h2, hn => by
    have hp0 : 0 < p.length := List.length_pos_iff.2 hp
    rw [cutR_step]
    by_cases hl : i + p.length ≤ s.length
    · rw [decide_eq_true hl, cond_true]
      have ho := Lib.occAt_iff_take s p i hl
      cases hm : ((s.drop i).take p.length == p)
      · rw [Bool.and_false, cond_false]
        by_cases h3 : i + 1 ≤ fr
        · exact cutR_eq hp f fr (i + 1) (by omega) (by omega) h2 fun j hj hj' => by omega
        · refine cutR_eq hp f fr (i + 1) (by omega) (by omega) h2 fun j hj hj' => ?_
          by_cases h4 : j = i
          · rw [h4, ho, hm]
          · exact hn j hj (by omega)
      · by_cases h3 : fr ≤ i
        · rw [decide_eq_true h3, Bool.and_true, cond_true]
          have hi : Lib.index (s.drop fr) p = ((i - fr : Nat) : Int) := by
            refine Lib.index_first (by rw [List.length_drop]; omega) ?_ fun j hj => ?_
            · unfold Lib.occAt at ho ⊢
              rw [List.drop_drop, show fr + (i - fr) = i from by omega, ho, hm]
            · have := hn (fr + j) (by omega) (by omega)
              unfold Lib.occAt at this ⊢
              rw [List.drop_drop, this]
          rw [split_hit hp hi, List.drop_drop, show fr + (i - fr + p.length) = i + p.length from by omega]
          congr 1
          exact cutR_eq hp f (i + p.length) (i + 1) (by omega) (by omega) hl fun j hj hj' => by omega
        · rw [decide_eq_false h3, Bool.false_and, cond_false]
          exact cutR_eq hp f fr (i + 1) (by omega) (by omega) h2 fun j hj hj' => by omega
    · rw [decide_eq_false hl, cond_false]
      exact (cut_none hp hn (by omega)).symm
theorem occ_no {u r : List UInt8} {c : UInt8} {t : List UInt8} (h : u.contains c = false) {j : Nat} (hj : j < u.length) : Lib.occAt (u ++ r) (c :: t) j = false := by
  cases ho : Lib.occAt (u ++ r) (c :: t) j
  · rfl
  · have h1 := Lib.occAt_head rfl ho
    rw [List.getElem?_append_left hj] at h1
    have : c ∈ u := List.mem_of_getElem? h1
    rw [← List.contains_iff_mem, h] at this
    cases this
theorem split_at {u r : List UInt8} {c : UInt8} {t : List UInt8} (h : u.contains c = false) : Lib.split (u ++ (c :: t) ++ r) (c :: t) = u :: Lib.split r (c :: t) := by
  have hi : Lib.index (u ++ (c :: t) ++ r) (c :: t) = (u.length : Nat) := by
    refine Lib.index_first (by simp only [List.length_append]; omega) ?_ fun j hj => ?_
    · unfold Lib.occAt
      rw [List.append_assoc, List.drop_left, List.isPrefixOf_iff_prefix]
      exact List.prefix_append _ _
    · rw [List.append_assoc]; exact occ_no h hj
  rw [split_hit (by simp) hi]
  congr 1
  · rw [List.append_assoc, List.take_left]
  · rw [← List.length_append, List.drop_left]
theorem split_end {u : List UInt8} {c : UInt8} {t : List UInt8} (h : u.contains c = false) : Lib.split u (c :: t) = [u] := by
  refine split_miss (Lib.index_none fun j hj => ?_)
  by_cases hj' : j < u.length
  · have := occ_no (r := []) (t := t) h hj'
    rwa [List.append_nil] at this
  · have : j = u.length := by omega
    subst this
    unfold Lib.occAt
    rw [List.drop_length]; rfl
theorem split_join {c : UInt8} {t : List UInt8} : ∀ (l : List (List UInt8)), l ≠ [] → (∀ x ∈ l, x.contains c = false) → Lib.split (Lib.join l (c :: t)) (c :: t) = l
  | [], h, _ => absurd rfl h
  | [x], _, h => by rw [Lib.join_one]; exact split_end (h x (by simp))
  | x :: y :: l, _, h => by
    have hj : Lib.join (x :: y :: l) (c :: t) = x ++ (c :: t) ++ Lib.join (y :: l) (c :: t) := by
      rw [Lib.join_cons, Lib.join_cons]
      unfold Lib.joinTail
      simp only [List.map_cons, List.flatten_cons, List.append_assoc]
    rw [hj, split_at (h x (by simp)), split_join (y :: l) (by simp) fun z hz => h z (by simp [hz])]
theorem join_cons2 (x : List UInt8) {l : List (List UInt8)} (h : l ≠ []) (p : List UInt8) : Lib.join (x :: l) p = x ++ p ++ Lib.join l p := by
  match l with
  | [] => exact absurd rfl h
  | y :: l =>
    rw [Lib.join_cons, Lib.join_cons]
    unfold Lib.joinTail
    simp only [List.map_cons, List.flatten_cons, List.append_assoc]
theorem index_hit {s p : List UInt8} {i : Nat} (h : Lib.index s p = i) : s = s.take i ++ p ++ s.drop (i + p.length) := by
  rcases Lib.index_spec s p with ⟨h1, _⟩ | ⟨j, h1, h2, h3, _⟩
  · omega
  · obtain rfl : i = j := by omega
    unfold Lib.occAt at h3
    obtain ⟨r, hr⟩ := List.isPrefixOf_iff_prefix.1 h3
    have : s.drop (i + p.length) = r := by rw [← List.drop_drop, ← hr, List.drop_left]
    rw [this, List.append_assoc, hr, List.take_append_drop]
theorem split_ne {p : List UInt8} (s : List UInt8) : Lib.split s p ≠ [] := by
  unfold Lib.split
  cases Lib.count s p with
  | zero => simp [Lib.splitK]
  | succ k => unfold Lib.splitK; split <;> simp
theorem join_split {p : List UInt8} (hp : p ≠ []) : ∀ (n : Nat) (s : List UInt8), s.length ≤ n → Lib.join (Lib.split s p) p = s
  | n, s, hn => by
    rcases Lib.index_spec s p with ⟨h1, _⟩ | ⟨j, h1, h2, h3, _⟩
    · rw [split_miss h1, Lib.join_one]
    · have e := index_hit h1
      have hp0 : 0 < p.length := List.length_pos_iff.2 hp
      have hr := Lib.index_room s p (by omega)
      match n with
      | 0 => omega
      | n + 1 =>
        rw [split_hit hp h1, join_cons2 _ (split_ne _), join_split hp n _ (by rw [List.length_drop]; omega)]
        exact e.symm
theorem pre2 (s : List UInt8) (a b : UInt8) : Lib.hasPrefix s [a, b] = (decide (2 ≤ s.length) && (s.take 2 == [a, b])) := (Lib.hasPrefix_of_take s [a, b]).symm
theorem pre2_eq {s : List UInt8} {a b : UInt8} (h : Lib.hasPrefix s [a, b] = true) : s = [a, b] ++ s.drop 2 := by
  obtain ⟨r, hr⟩ := List.isPrefixOf_iff_prefix.1 h
  rw [← hr]; rfl
theorem trim2 {s : List UInt8} {a b : UInt8} (h : Lib.hasPrefix s [a, b] = true) : Lib.trimPrefix s [a, b] = s.drop 2 := by
  unfold Lib.trimPrefix
  rw [if_pos h]; rfl
def hd (n : Nat) : UInt8 := ([48, 49, 50, 51, 52, 53, 54, 55, 56, 57, 97, 98, 99, 100, 101, 102] : List UInt8).getD n 0
def digs : Nat → Nat → List UInt8
  | 0, _ => []
  | k + 1, n => digs k (n / 16) ++ [hd (n % 16)]
theorem digs_len : ∀ k n, (digs k n).length = k
  | 0, _ => rfl
  | k + 1, n => by unfold digs; rw [List.length_append, digs_len k]; rfl
theorem digs_map : ∀ k n, digs k n = (List.range k).map fun i => hd (n / 16 ^ (k - 1 - i) % 16)
  | 0, _ => rfl
  | k + 1, n => by
    unfold digs
    rw [digs_map k, List.range_succ, List.map_append]
    congr 1
    · refine List.map_congr_left fun i hi => ?_
      have : i < k := List.mem_range.1 hi
      rw [Nat.div_div_eq_div_mul, ← Nat.pow_succ', show (k - 1 - i).succ = k + 1 - 1 - i from by omega]
    · show _ = [hd (n / 16 ^ (k + 1 - 1 - k) % 16)]
      rw [show k + 1 - 1 - k = 0 from by omega, Nat.pow_zero, Nat.div_one]
theorem hd_inj : ∀ a, a < 16 → ∀ b, b < 16 → hd a = hd b → a = b := by decide +kernel
theorem hd_hex : ∀ a, a < 16 → (48 ≤ (hd a).toNat ∧ (hd a).toNat ≤ 57) ∨ (97 ≤ (hd a).toNat ∧ (hd a).toNat ≤ 102) := by decide +kernel
theorem digs_inj : ∀ k a b, a < 16 ^ k → b < 16 ^ k → digs k a = digs k b → a = b
  | 0, a, b, ha, hb, _ => by simp at ha hb; omega
  | k + 1, a, b, ha, hb, h => by
    unfold digs at h
    obtain ⟨h1, h2⟩ := List.append_inj h (by rw [digs_len, digs_len])
    rw [Nat.pow_succ] at ha hb
    have e1 := digs_inj k (a / 16) (b / 16) (Nat.div_lt_of_lt_mul (by omega)) (Nat.div_lt_of_lt_mul (by omega)) h1
    have e2 := hd_inj (a % 16) (Nat.mod_lt _ (by decide)) (b % 16) (Nat.mod_lt _ (by decide)) (by simpa using h2)
    omega
theorem digs_mem {k n : Nat} {c : UInt8} (h : c ∈ digs k n) : (48 ≤ c.toNat ∧ c.toNat ≤ 57) ∨ (97 ≤ c.toNat ∧ c.toNat ≤ 102) := by
  rw [digs_map] at h
  obtain ⟨i, _, rfl⟩ := List.mem_map.1 h
  exact hd_hex _ (Nat.mod_lt _ (by decide))
def wu (n : Int) : Int := IntKind.u64.wrap n
theorem wu_eq (n : Int) : wu n = n % 18446744073709551616 := by unfold wu; simp [IntKind.wrap, IntKind.bits, IntKind.signed]
theorem wu_r (n : Int) : 0 ≤ wu n ∧ wu n < 18446744073709551616 := by rw [wu_eq]; omega
theorem wu_id {n : Int} (h : 0 ≤ n) (h' : n < 18446744073709551616) : wu n = n := by rw [wu_eq]; omega
def xr (a b : Int) : Int := wu ((BitVec.ofInt 64 a ^^^ BitVec.ofInt 64 b).toNat : Int)
theorem and15 {a : Int} (h : 0 ≤ a) : wu ((BitVec.ofInt 64 a &&& BitVec.ofInt 64 15).toNat : Int) = ((a.toNat % 16 : Nat) : Int) := by
  obtain ⟨m, rfl⟩ : ∃ m : Nat, a = m := ⟨a.toNat, by omega⟩
  rw [BitVec.toNat_and, BitVec.toNat_ofInt, BitVec.toNat_ofInt]
  have e1 : (((m : Int) % ((2 ^ 64 : Nat) : Int)).toNat) = m % 2 ^ 64 := by omega
  have e2 : (((15 : Int) % ((2 ^ 64 : Nat) : Int)).toNat) = 2 ^ 4 - 1 := by decide
  rw [e1, e2, Nat.and_two_pow_sub_one_eq_mod, wu_eq]
  omega
def stP (x c : Int) : Int := xr (wu (xr x (wu c) * 1099511628211)) ((wu (xr x (wu c) * 1099511628211)).fdiv (2 ^ 29))
def mD (y : Int) : Int := wu (wu (y * 2 ^ 40) + wu (y * 435))
def stD (x c : Int) : Int := xr (mD (xr x (wu c))) (wu ((mD (xr x (wu c))).tdiv 536870912))
theorem mD_eq (y : Int) : mD y = wu (y * 1099511628211) := by
  unfold mD
  simp only [wu_eq]
  omega
theorem st_eq (x c : Int) : stD x c = stP x c := by
  unfold stD stP
  rw [mD_eq]
  have h := wu_r (xr x (wu c) * 1099511628211)
  rw [Int.fdiv_eq_ediv_of_nonneg _ (by decide), Int.tdiv_eq_ediv_of_nonneg h.1, wu_id (Int.ediv_nonneg h.1 (by decide)) (by omega)]
  rfl
end Go.Proofs.YthdhfmdhjanoaaaGreatDoor
