/-
  Texts taken apart and put together: Cut, Joined, Unhex, Values, Pieces.
-/
import Derived.Test.YthdhfmdhjanoaaaGreatDoorTsO
import Derived.Test.YthdhfmdhjanoaaaGreatDoorTsE

namespace Go.Proofs.YthdhfmdhjanoaaaGreatDoor
open Go.Ev
noncomputable def b14 : Code := ((Tryz.f14.body.map loopsOf).getD []).headD .skip
def sumL (x : Int) (l : List AV) : Int := l.foldl (fun x e => stP x (iE e)) x
theorem sumL_cons (x : Int) (e : AV) (l : List AV) : sumL x (e :: l) = sumL (stP x (iE e)) l := rfl
def finS (x n : Int) : Int := xr (wu (xr x (wu n) * 13787848793156543929)) ((wu (xr x (wu n) * 13787848793156543929)).fdiv (2 ^ 31))
def finD (x n : Int) : Int := xr (wu (xr x (wu n) * 13787848793156543929)) (wu ((wu (xr x (wu n) * 13787848793156543929)).tdiv 2147483648))
theorem fin_eq (x n : Int) : finD x n = finS x n := by
  unfold finD finS
  have h := wu_r (xr x (wu n) * 13787848793156543929)
  rw [Int.fdiv_eq_ediv_of_nonneg _ (by decide), Int.tdiv_eq_ediv_of_nonneg h.1, wu_id (Int.ediv_nonneg h.1 (by decide)) (by omega)]
  rfl
def skId : List AV → Int → Int
  | [], n => n
  | _ :: l, n => skId l n
theorem skId_eq : ∀ (l : List AV) (n : Int), skId l n = n
  | [], _ => rfl
  | _ :: l, n => skId_eq l n
def sumF (key : Int) (es : List AV) : Int := skId es (finS (sumL (xr key 11400714819323198485) es) es.length)
theorem sumF_eq (key : Int) (es : List AV) : sumF key es = finS (sumL (xr key 11400714819323198485) es) es.length := skId_eq _ _
theorem sumF_r (key : Int) (es : List AV) : 0 ≤ sumF key es ∧ sumF key es < 18446744073709551616 := by
  rw [sumF_eq]; exact wu_r _
def L14 : List AV → List (Option Row) → Tr LOut
  | [.slv (.int .u8) bs, .int .u64 x, .slv (.int .u8) es, .int .i64 n, .int .i64 i], [] =>
    .gd (cnt n i es.length) (.leaf (.exit 0, [.slv (.int .u8) bs, .int .u64 (sumL x (es.drop i.toNat)), .slv (.int .u8) es, .int .i64 n, .int .i64 es.length], []))
  | _, _ => .no
def l14 : Ev.Loop := ⟨{ len := 36, slots := [1, 5, 10, 11, 12] }, ofL L14⟩
def μ14 (vs : List AV) (_ : List (Option Row)) : Nat := match vs with
  | [_, _, _, .int _ n, .int _ i] => (n - i).toNat
  | _ => 0
theorem loop14 : LoopOK Tryz.prog G0 [(3, l14)] b14 l14 := by
  refine loopT g0.natOK rfl (KOK.nil (by kernel_rfl)) μ14 (fun ρ vs rs k r h => ?_)
  unfold L14 at h
  split at h
  · rename_i bs x es n i
    obtain ⟨hc, hk⟩ := gd_some h
    obtain ⟨rfl, hs, j, rfl, hj⟩ := cnt_spec hc
    rw [Int.toNat_natCast] at hk
    refine Eq.trans (b := bif decide ((↑j : Int) < (↑es.length : Int)) then bif inb (↑j : Int) es.length then bif decide (((↑es.length : Int) - IntKind.i64.wrap ((↑j : Int) + (1 : Int))).toNat < ((↑es.length : Int) - (↑j : Int)).toNat) then bif cnt (↑es.length : Int) (IntKind.i64.wrap ((↑j : Int) + (1 : Int))) es.length then k (Ex.exit (0 : Nat)) [AV.slv (Sh.int IntKind.u8) bs, AV.int IntKind.u64 (sumL (IntKind.u64.wrap (↑(BitVec.ofInt IntKind.u64.bits (IntKind.u64.wrap (IntKind.u64.wrap (↑(BitVec.ofInt IntKind.u64.bits x ^^^ BitVec.ofInt IntKind.u64.bits (IntKind.u64.wrap (iE (es.getD j AV.unk)))).toNat : Int) * (1099511628211 : Int))) ^^^ BitVec.ofInt IntKind.u64.bits ((IntKind.u64.wrap (IntKind.u64.wrap (↑(BitVec.ofInt IntKind.u64.bits x ^^^ BitVec.ofInt IntKind.u64.bits (IntKind.u64.wrap (iE (es.getD j AV.unk)))).toNat : Int) * (1099511628211 : Int))).fdiv ((2 : Int) ^ min (Int.toNat (29 : Int)) IntKind.u64.bits))).toNat : Int)) (List.drop (IntKind.i64.wrap ((↑j : Int) + (1 : Int))).toNat es)), AV.slv (Sh.int IntKind.u8) es, AV.int IntKind.i64 (↑es.length : Int), AV.int IntKind.i64 (↑es.length : Int)] [] else none else none else none else k (Ex.exit (0 : Nat)) [AV.slv (Sh.int IntKind.u8) bs, AV.int IntKind.u64 x, AV.slv (Sh.int IntKind.u8) es, AV.int IntKind.i64 (↑es.length : Int), AV.int IntKind.i64 (↑j : Int)] []) (by kernel_rfl) ?_
    rw [← hk]
    by_cases hlt : j < es.length
    · obtain ⟨e1, e2, e3, e4, e5⟩ := cnt_facts hlt hs
      rw [drop_getD hlt, sumL_cons]
      simp only [e1, e2, e3, e4, e5, cond_true, Int.toNat_natCast]
      rfl
    · obtain rfl : j = es.length := by omega
      rw [decide_eq_false (by omega), List.drop_length]
      rfl
  · cases h
def F14 : List AV → Tr AV
  | [.int .u64 key, .slv (.int .u8) es] => .gd (small es.length) (.leaf (.int .u64 (sumF key es)))
  | _ => .no
theorem ok14 : SumOK Tryz.prog 14 (ofT F14) ∧ SNat (ofT F14) := by
  refine fn1 (K := [(3, l14)]) (b := b14) (l := l14) g0 Tryz.func14 (by kernel_rfl) (by kernel_rfl) loop14 fun ρ avs k r h => ?_
  unfold F14 at h
  split at h
  · rename_i key es
    obtain ⟨hc, hk⟩ := gd_some h
    refine Eq.trans (b := bif cnt (↑es.length : Int) (0 : Int) es.length then k (AV.int IntKind.u64 (IntKind.u64.wrap (↑(BitVec.ofInt IntKind.u64.bits (IntKind.u64.wrap (IntKind.u64.wrap (↑(BitVec.ofInt IntKind.u64.bits (sumL (IntKind.u64.wrap (↑(BitVec.ofInt IntKind.u64.bits key ^^^ BitVec.ofInt IntKind.u64.bits (11400714819323198485 : Int)).toNat : Int)) (List.drop (0 : Nat) es)) ^^^ BitVec.ofInt IntKind.u64.bits (IntKind.u64.wrap (↑es.length : Int))).toNat : Int) * (13787848793156543929 : Int))) ^^^ BitVec.ofInt IntKind.u64.bits ((IntKind.u64.wrap (IntKind.u64.wrap (↑(BitVec.ofInt IntKind.u64.bits (sumL (IntKind.u64.wrap (↑(BitVec.ofInt IntKind.u64.bits key ^^^ BitVec.ofInt IntKind.u64.bits (11400714819323198485 : Int)).toNat : Int)) (List.drop (0 : Nat) es)) ^^^ BitVec.ofInt IntKind.u64.bits (IntKind.u64.wrap (↑es.length : Int))).toNat : Int) * (13787848793156543929 : Int))).fdiv ((2 : Int) ^ min (Int.toNat (31 : Int)) IntKind.u64.bits))).toNat : Int))) else none) (by kernel_rfl) ?_
    rw [← hk, sumF_eq]
    exact Eq.trans (cond_t (cnt_zero hc)) rfl
  · cases h
noncomputable def b15 : Code := ((Tryz.f15.body.map loopsOf).getD []).headD .skip
def L15 : List AV → List (Option Row) → Tr LOut
  | [.slv (.int .u8) es, .int .u64 x, .int .i64 i], [] =>
    .gd (cnt es.length i es.length) (.leaf (.exit 0, [.slv (.int .u8) es, .int .u64 (sumL x (es.drop i.toNat)), .int .i64 es.length], []))
  | _, _ => .no
def l15 : Ev.Loop := ⟨{ len := 42, slots := [1, 5, 6] }, ofL L15⟩
def μ15 (vs : List AV) (_ : List (Option Row)) : Nat := match vs with
  | [.slv _ es, _, .int _ i] => ((es.length : Int) - i).toNat
  | _ => 0
theorem loop15 : LoopOK Tryz.prog G0 [(3, l15)] b15 l15 := by
  refine loopT g0.natOK rfl (KOK.nil (by kernel_rfl)) μ15 (fun ρ vs rs k r h => ?_)
  unfold L15 at h
  split at h
  · rename_i es x i
    obtain ⟨hc, hk⟩ := gd_some h
    obtain ⟨_, hs, j, rfl, hj⟩ := cnt_spec hc
    rw [Int.toNat_natCast] at hk
    refine Eq.trans (b := bif decide ((↑j : Int) < (↑es.length : Int)) then bif inb (↑j : Int) es.length then bif decide (((↑es.length : Int) - IntKind.i64.wrap ((↑j : Int) + (1 : Int))).toNat < ((↑es.length : Int) - (↑j : Int)).toNat) then bif cnt (↑es.length : Int) (IntKind.i64.wrap ((↑j : Int) + (1 : Int))) es.length then k (Ex.exit (0 : Nat)) [AV.slv (Sh.int IntKind.u8) es, AV.int IntKind.u64 (sumL (IntKind.u64.wrap (↑(BitVec.ofInt IntKind.u64.bits (IntKind.u64.wrap (IntKind.u64.wrap (IntKind.u64.wrap (↑(BitVec.ofInt IntKind.u64.bits x ^^^ BitVec.ofInt IntKind.u64.bits (IntKind.u64.wrap (iE (es.getD j AV.unk)))).toNat : Int) * (2 : Int) ^ min (Int.toNat (40 : Int)) IntKind.u64.bits) + IntKind.u64.wrap (IntKind.u64.wrap (↑(BitVec.ofInt IntKind.u64.bits x ^^^ BitVec.ofInt IntKind.u64.bits (IntKind.u64.wrap (iE (es.getD j AV.unk)))).toNat : Int) * (435 : Int)))) ^^^ BitVec.ofInt IntKind.u64.bits (IntKind.u64.wrap ((IntKind.u64.wrap (IntKind.u64.wrap (IntKind.u64.wrap (↑(BitVec.ofInt IntKind.u64.bits x ^^^ BitVec.ofInt IntKind.u64.bits (IntKind.u64.wrap (iE (es.getD j AV.unk)))).toNat : Int) * (2 : Int) ^ min (Int.toNat (40 : Int)) IntKind.u64.bits) + IntKind.u64.wrap (IntKind.u64.wrap (↑(BitVec.ofInt IntKind.u64.bits x ^^^ BitVec.ofInt IntKind.u64.bits (IntKind.u64.wrap (iE (es.getD j AV.unk)))).toNat : Int) * (435 : Int)))).tdiv (536870912 : Int)))).toNat : Int)) (List.drop (IntKind.i64.wrap ((↑j : Int) + (1 : Int))).toNat es)), AV.int IntKind.i64 (↑es.length : Int)] [] else none else none else none else k (Ex.exit (0 : Nat)) [AV.slv (Sh.int IntKind.u8) es, AV.int IntKind.u64 x, AV.int IntKind.i64 (↑j : Int)] []) (by kernel_rfl) ?_
    rw [← hk]
    by_cases hlt : j < es.length
    · obtain ⟨e1, e2, e3, e4, e5⟩ := cnt_facts hlt hs
      rw [drop_getD hlt, sumL_cons, ← st_eq]
      simp only [e1, e2, e3, e4, e5, cond_true, Int.toNat_natCast]
      rfl
    · obtain rfl : j = es.length := by omega
      rw [decide_eq_false (by omega), List.drop_length]
      rfl
  · cases h
theorem ok15 : SumOK Tryz.prog 15 (ofT F14) ∧ SNat (ofT F14) := by
  refine fn1 (K := [(3, l15)]) (b := b15) (l := l15) g0 Tryz.func15 (by kernel_rfl) (by kernel_rfl) loop15 fun ρ avs k r h => ?_
  unfold F14 at h
  split at h
  · rename_i key es
    obtain ⟨hc, hk⟩ := gd_some h
    refine Eq.trans (b := bif cnt (↑es.length : Int) (0 : Int) es.length then k (AV.int IntKind.u64 (IntKind.u64.wrap (↑(BitVec.ofInt IntKind.u64.bits (IntKind.u64.wrap (IntKind.u64.wrap (↑(BitVec.ofInt IntKind.u64.bits (sumL (IntKind.u64.wrap (↑(BitVec.ofInt IntKind.u64.bits key ^^^ BitVec.ofInt IntKind.u64.bits (11400714819323198485 : Int)).toNat : Int)) (List.drop (0 : Nat) es)) ^^^ BitVec.ofInt IntKind.u64.bits (IntKind.u64.wrap (↑es.length : Int))).toNat : Int) * (13787848793156543929 : Int))) ^^^ BitVec.ofInt IntKind.u64.bits (IntKind.u64.wrap ((IntKind.u64.wrap (IntKind.u64.wrap (↑(BitVec.ofInt IntKind.u64.bits (sumL (IntKind.u64.wrap (↑(BitVec.ofInt IntKind.u64.bits key ^^^ BitVec.ofInt IntKind.u64.bits (11400714819323198485 : Int)).toNat : Int)) (List.drop (0 : Nat) es)) ^^^ BitVec.ofInt IntKind.u64.bits (IntKind.u64.wrap (↑es.length : Int))).toNat : Int) * (13787848793156543929 : Int))).tdiv (2147483648 : Int)))).toNat : Int))) else none) (by kernel_rfl) ?_
    rw [← hk, sumF_eq, ← fin_eq]
    exact Eq.trans (cond_t (cnt_zero hc)) rfl
  · cases h
def hexS (n : Int) : List UInt8 := digs 16 n.toNat
def uN (n : Int) : Bool := decide (0 ≤ n ∧ n < 18446744073709551616)
def dgs : List UInt8 := [48, 49, 50, 51, 52, 53, 54, 55, 56, 57, 97, 98, 99, 100, 101, 102]
theorem dg_take : ∀ m, m < 16 → List.take ((m + 1) - m) (List.drop m dgs) = [hd m] := by decide +kernel
def hexR (n : Int) (s : List UInt8) (i : Int) : List UInt8 := digs (16 - i.toNat) n.toNat ++ s
def hexQ (n i : Int) : Int := (n.toNat / 16 ^ (16 - i.toNat) : Nat)
theorem hexR_step {m j : Nat} (s : List UInt8) (h : j < 16) : hexR m s j = hexR ((m / 16 : Nat) : Int) ([hd (m % 16)] ++ s) ((j + 1 : Nat) : Int) := by
  unfold hexR
  simp only [Int.toNat_natCast]
  rw [show 16 - j = (16 - (j + 1)) + 1 from by omega, digs, List.append_assoc]
theorem hexQ_step {m j : Nat} (h : j < 16) : hexQ m j = hexQ ((m / 16 : Nat) : Int) ((j + 1 : Nat) : Int) := by
  unfold hexQ
  simp only [Int.toNat_natCast]
  rw [Nat.div_div_eq_div_mul, ← Nat.pow_succ', show (16 - (j + 1)).succ = 16 - j from by omega]
noncomputable def b38 : Code := ((Tryz.f38.body.map loopsOf).getD []).headD .skip
def L38 : List AV → List (Option Row) → Tr LOut
  | [.int .u64 n, .str d, .str s, .int .i64 i], [] =>
    .gd (uN n && (decide (0 ≤ i ∧ i ≤ 16 ∧ s.length = i.toNat) && d == dgs)) (.leaf (.exit 0, [.int .u64 (hexQ n i), .str d, .str (hexR n s i), .int .i64 16], []))
  | _, _ => .no
def l38 : Ev.Loop := ⟨{ len := 22, slots := [0, 3, 4, 5] }, ofL L38⟩
def μ38 (vs : List AV) (_ : List (Option Row)) : Nat := match vs with
  | [_, _, _, .int _ i] => (16 - i).toNat
  | _ => 0
theorem loop38 : LoopOK Tryz.prog G0 [(4, l38)] b38 l38 := by
  refine loopT g0.natOK rfl (KOK.nil (by kernel_rfl)) μ38 (fun ρ vs rs k r h => ?_)
  unfold L38 at h
  split at h
  · rename_i n d s i
    obtain ⟨hc, hk⟩ := gd_some h
    simp only [Bool.and_eq_true, uN, decide_eq_true_eq] at hc
    obtain ⟨⟨n0, n1⟩, ⟨i0, i1, hl⟩, hdd⟩ := hc
    obtain ⟨j, rfl⟩ : ∃ j : Nat, i = j := ⟨i.toNat, by omega⟩
    rw [Int.toNat_natCast] at hl
    refine Eq.trans (b := bif decide ((↑j : Int) < (16 : Int)) then bif slb (n.tmod (16 : Int)) (IntKind.u64.wrap (n.tmod (16 : Int) + (1 : Int))) d.length then bif lenB ((List.take ((IntKind.u64.wrap (n.tmod (16 : Int) + (1 : Int))).toNat - (n.tmod (16 : Int)).toNat) (List.drop (n.tmod (16 : Int)).toNat d)).length + s.length) then bif decide (((16 : Int) - IntKind.i64.wrap ((↑j : Int) + (1 : Int))).toNat < ((16 : Int) - (↑j : Int)).toNat) then bif uN (IntKind.u64.wrap (n.tdiv (16 : Int))) && (decide ((0 : Int) ≤ IntKind.i64.wrap ((↑j : Int) + (1 : Int)) ∧ IntKind.i64.wrap ((↑j : Int) + (1 : Int)) ≤ (16 : Int) ∧ (List.take ((IntKind.u64.wrap (n.tmod (16 : Int) + (1 : Int))).toNat - (n.tmod (16 : Int)).toNat) (List.drop (n.tmod (16 : Int)).toNat d) ++ s).length = (IntKind.i64.wrap ((↑j : Int) + (1 : Int))).toNat) && d == dgs) then k (Ex.exit (0 : Nat)) [AV.int IntKind.u64 (hexQ (IntKind.u64.wrap (n.tdiv (16 : Int))) (IntKind.i64.wrap ((↑j : Int) + (1 : Int)))), AV.str d, AV.str (hexR (IntKind.u64.wrap (n.tdiv (16 : Int))) (List.take ((IntKind.u64.wrap (n.tmod (16 : Int) + (1 : Int))).toNat - (n.tmod (16 : Int)).toNat) (List.drop (n.tmod (16 : Int)).toNat d) ++ s) (IntKind.i64.wrap ((↑j : Int) + (1 : Int)))), AV.int IntKind.i64 (16 : Int)] [] else none else none else none else none else k (Ex.exit (0 : Nat)) [AV.int IntKind.u64 n, AV.str d, AV.str s, AV.int IntKind.i64 (↑j : Int)] []) (by kernel_rfl) ?_
    rw [← hk]
    obtain ⟨m, rfl⟩ : ∃ m : Nat, n = m := ⟨n.toNat, by omega⟩
    obtain rfl : d = dgs := by simpa using hdd
    by_cases hlt : j < 16
    · have t1 : ((m : Int).tmod 16) = ((m % 16 : Nat) : Int) := rfl
      have t2 : ((m : Int).tdiv 16) = ((m / 16 : Nat) : Int) := rfl
      have w1 : IntKind.u64.wrap (((m % 16 : Nat) : Int) + 1) = ((m % 16 + 1 : Nat) : Int) := by
        show wu _ = _
        rw [wu_eq]; omega
      have w2 : IntKind.u64.wrap ((m / 16 : Nat) : Int) = ((m / 16 : Nat) : Int) := by
        show wu _ = _
        rw [wu_eq]; omega
      have w3 : IntKind.i64.wrap ((j : Int) + 1) = ((j + 1 : Nat) : Int) := by rw [wrap_mid _ (by omega) (by omega)]; omega
      have hdt := dg_take (m % 16) (Nat.mod_lt _ (by decide))
      have hu : uN ((m / 16 : Nat) : Int) = true := decide_eq_true ⟨by omega, by omega⟩
      have hg : decide ((0 : Int) ≤ ((j + 1 : Nat) : Int) ∧ ((j + 1 : Nat) : Int) ≤ 16 ∧ ([hd (m % 16)] ++ s).length = (((j + 1 : Nat) : Int)).toNat) = true := decide_eq_true ⟨by omega, by omega, by rw [List.length_append, Int.toNat_natCast]; show 1 + _ = _; omega⟩
      have hs1 : slb ((m % 16 : Nat) : Int) ((m % 16 + 1 : Nat) : Int) dgs.length = true := slb_true (by omega) (by omega) (by show _ ≤ ((16 : Nat) : Int); omega)
      have hlb : lenB (([hd (m % 16)] : List UInt8).length + s.length) = true := decide_eq_true (by show 1 + _ ≤ _; omega)
      rw [hexR_step s hlt, hexQ_step hlt]
      simp only [t1, t2, w1, w2, w3, Int.toNat_natCast, hdt, hs1, hlb, hu, cond_true, beq_self_eq_true, Bool.and_true, Bool.true_and]
      rw [decide_eq_true (show (j : Int) < 16 by omega), decide_eq_true (show ((16 : Int) - ((j + 1 : Nat) : Int)).toNat < ((16 : Int) - (j : Int)).toNat by omega)]
      exact Eq.trans (cond_t rfl) (Eq.trans (cond_t rfl) (cond_t hg))
    · obtain rfl : j = 16 := by omega
      rw [decide_eq_false (by omega)]
      have e1 : hexQ (m : Int) ((16 : Nat) : Int) = m := by show ((m / 16 ^ (16 - 16) : Nat) : Int) = m; rw [Nat.sub_self, Nat.pow_zero, Nat.div_one]
      have e2 : hexR (m : Int) s ((16 : Nat) : Int) = s := rfl
      rw [e1, e2]
      rfl
  · cases h
def F38 : List AV → Tr AV
  | [.int .u64 n] => .gd (uN n) (.leaf (.str (hexS n)))
  | _ => .no
theorem ok38 : SumOK Tryz.prog 38 (ofT F38) ∧ SNat (ofT F38) := by
  refine fn1 (K := [(4, l38)]) (b := b38) (l := l38) g0 Tryz.func38 (by kernel_rfl) (by kernel_rfl) loop38 fun ρ avs k r h => ?_
  unfold F38 at h
  split at h
  · rename_i n
    obtain ⟨hc, hk⟩ := gd_some h
    refine Eq.trans (b := bif uN n && (decide ((0 : Int) ≤ (0 : Int) ∧ (0 : Int) ≤ (16 : Int) ∧ ([] : List UInt8).length = Int.toNat (0 : Int)) && ([48, 49, 50, 51, 52, 53, 54, 55, 56, 57, 97, 98, 99, 100, 101, 102] : List UInt8) == dgs) then k (AV.str (hexR n ([] : List UInt8) (0 : Int))) else none) (by kernel_rfl) ?_
    rw [← hk]
    refine Eq.trans (cond_t (and_t hc rfl)) ?_
    show k (.str (digs 16 n.toNat ++ [])) = _
    rw [List.append_nil]
    rfl
  · cases h
noncomputable def b76 : Code := ((Tryz.f76.body.map loopsOf).getD []).headD .skip
def hxC (n : Int) (k : Nat) : AV := .int .u8 ((hd (n.toNat / 16 ^ (15 - k) % 16)).toNat : Nat)
def L76 : List AV → List (Option Row) → Tr LOut
  | [.int .u64 n, .own 64, .own 64, .int .i64 m, .int .i64 i], [some (.arr false (.int .u8) e es none)] =>
    .gd (cnt m i 16 && (uN n && decide (es.length = 16))) (.leaf (.exit 0, [.int .u64 n, .own 64, .own 64, .int .i64 m, .int .i64 16], [some (.arr false (.int .u8) e (es.take i.toNat ++ (List.range' i.toNat (16 - i.toNat)).map (hxC n)) none)]))
  | _, _ => .no
def l76 : Ev.Loop := ⟨{ len := 24, slots := [0, 3, 6, 7, 8], rows := [64] }, ofL L76⟩
def μ76 (vs : List AV) (_ : List (Option Row)) : Nat := match vs with
  | [_, _, _, .int _ n, .int _ i] => (n - i).toNat
  | _ => 0
theorem loop76 : LoopOK Tryz.prog GC [(3, l76)] b76 l76 := by
  refine loopT gc.natOK rfl (KOK.nil (by kernel_rfl)) μ76 (fun ρ vs rs k r h => ?_)
  unfold L76 at h
  split at h
  · rename_i n m i e es
    obtain ⟨hc, hk⟩ := gd_some h
    simp only [Bool.and_eq_true] at hc
    obtain ⟨hc, hn, hl⟩ := hc
    obtain ⟨rfl, hs, j, rfl, hj⟩ := cnt_spec hc
    rw [Int.toNat_natCast] at hk
    refine Eq.trans (b := bif decide ((↑j : Int) < (↑(16 : Nat) : Int)) then bif decide (IntKind.i64.wrap ((60 : Int) - IntKind.i64.wrap ((4 : Int) * (↑j : Int))) < (0 : Int)) then none else bif inb (IntKind.u64.wrap (↑(BitVec.ofInt IntKind.u64.bits (n.fdiv ((2 : Int) ^ min (IntKind.i64.wrap ((60 : Int) - IntKind.i64.wrap ((4 : Int) * (↑j : Int)))).toNat IntKind.u64.bits)) &&& BitVec.ofInt IntKind.u64.bits (15 : Int)).toNat : Int)) ([48, 49, 50, 51, 52, 53, 54, 55, 56, 57, 97, 98, 99, 100, 101, 102] : List UInt8).length then bif inb (↑j : Int) es.length then bif decide (j < es.length) then bif decide (((↑(16 : Nat) : Int) - IntKind.i64.wrap ((↑j : Int) + (1 : Int))).toNat < ((↑(16 : Nat) : Int) - (↑j : Int)).toNat) then bif cnt (↑(16 : Nat) : Int) (IntKind.i64.wrap ((↑j : Int) + (1 : Int))) (16 : Nat) && (uN n && decide ((es.set j (mkAV (Sh.int IntKind.u8) [AV.int IntKind.u8 (↑(([48, 49, 50, 51, 52, 53, 54, 55, 56, 57, 97, 98, 99, 100, 101, 102] : List UInt8).getD (IntKind.u64.wrap (↑(BitVec.ofInt IntKind.u64.bits (n.fdiv ((2 : Int) ^ min (IntKind.i64.wrap ((60 : Int) - IntKind.i64.wrap ((4 : Int) * (↑j : Int)))).toNat IntKind.u64.bits)) &&& BitVec.ofInt IntKind.u64.bits (15 : Int)).toNat : Int)).toNat (0 : UInt8)).toNat : Int)])).length = (16 : Nat))) then k (Ex.exit (0 : Nat)) [AV.int IntKind.u64 n, AV.own (64 : Nat), AV.own (64 : Nat), AV.int IntKind.i64 (↑(16 : Nat) : Int), AV.int IntKind.i64 (16 : Int)] [some (Row.arr false (Sh.int IntKind.u8) e (List.take (IntKind.i64.wrap ((↑j : Int) + (1 : Int))).toNat (es.set j (mkAV (Sh.int IntKind.u8) [AV.int IntKind.u8 (↑(([48, 49, 50, 51, 52, 53, 54, 55, 56, 57, 97, 98, 99, 100, 101, 102] : List UInt8).getD (IntKind.u64.wrap (↑(BitVec.ofInt IntKind.u64.bits (n.fdiv ((2 : Int) ^ min (IntKind.i64.wrap ((60 : Int) - IntKind.i64.wrap ((4 : Int) * (↑j : Int)))).toNat IntKind.u64.bits)) &&& BitVec.ofInt IntKind.u64.bits (15 : Int)).toNat : Int)).toNat (0 : UInt8)).toNat : Int)])) ++ List.map (hxC n) (List.range' (IntKind.i64.wrap ((↑j : Int) + (1 : Int))).toNat ((16 : Nat) - (IntKind.i64.wrap ((↑j : Int) + (1 : Int))).toNat))) none)] else none else none else none else none else none else k (Ex.exit (0 : Nat)) [AV.int IntKind.u64 n, AV.own (64 : Nat), AV.own (64 : Nat), AV.int IntKind.i64 (↑(16 : Nat) : Int), AV.int IntKind.i64 (↑j : Int)] [some (Row.arr false (Sh.int IntKind.u8) e es none)]) (by kernel_rfl) ?_
    rw [← hk]
    simp only [uN, decide_eq_true_eq] at hn
    have hl' : es.length = 16 := of_decide_eq_true hl
    by_cases hlt : j < 16
    · have w0 : IntKind.i64.wrap (4 * (j : Int)) = 4 * (j : Int) := wrap_mid _ (by omega) (by omega)
      have w1 : IntKind.i64.wrap (60 - 4 * (j : Int)) = ((60 - 4 * j : Nat) : Int) := by rw [wrap_mid _ (by omega) (by omega)]; omega
      have w3 : IntKind.i64.wrap ((j : Int) + 1) = ((j + 1 : Nat) : Int) := by rw [wrap_mid _ (by omega) (by omega)]; omega
      have hm : min (60 - 4 * j) IntKind.u64.bits = 60 - 4 * j := Nat.min_eq_left (by show 60 - 4 * j ≤ 64; omega)
      have hpw : (2 : Nat) ^ (60 - 4 * j) = 16 ^ (15 - j) := by
        rw [show (16 : Nat) = 2 ^ 4 from rfl, ← Nat.pow_mul]; congr 1; omega
      have hfd : n.fdiv (2 ^ (60 - 4 * j)) = ((n.toNat / 16 ^ (15 - j) : Nat) : Int) := by
        rw [← hpw, Int.fdiv_eq_ediv_of_nonneg _ (by exact Int.pow_nonneg (by decide))]
        conv => lhs; rw [show n = ((n.toNat : Nat) : Int) from by omega]
        norm_cast
      have h15 : IntKind.u64.wrap ((BitVec.ofInt IntKind.u64.bits ((n.toNat / 16 ^ (15 - j) : Nat) : Int) &&& BitVec.ofInt IntKind.u64.bits 15).toNat : Int) = ((n.toNat / 16 ^ (15 - j) % 16 : Nat) : Int) := and15 (Int.natCast_nonneg _)
      have hne : ¬ ((60 - 4 * j : Nat) : Int) < 0 := by omega
      have hsl : es.set j (mkAV (Sh.int IntKind.u8) [hxC n j]) = es.set j (hxC n j) := rfl
      have htk : (es.set j (hxC n j)).take (j + 1) = es.take j ++ [hxC n j] := by
        rw [List.take_succ_eq_append_getElem (by rw [List.length_set]; omega), List.getElem_set_self, List.take_set_of_le (Nat.le_refl _)]
      have hcell : AV.int IntKind.u8 (((([48, 49, 50, 51, 52, 53, 54, 55, 56, 57, 97, 98, 99, 100, 101, 102] : List UInt8).getD (n.toNat / 16 ^ (15 - j) % 16) 0).toNat : Nat) : Int) = hxC n j := rfl
      have hr : List.range' j (16 - j) = j :: List.range' (j + 1) (16 - (j + 1)) := by
        rw [show 16 - j = (16 - (j + 1)) + 1 from by omega, List.range'_succ]
      have hcn : cnt 16 ((j + 1 : Nat) : Int) 16 = true := and_t (decide_eq_true rfl) (and_t (decide_eq_true (by omega)) (and_t (decide_eq_true (by omega)) (decide_eq_true (by omega))))
      simp only [w0, w1, w3, Int.toNat_natCast, hm, hfd, h15, hcell, hsl, htk, hr, List.length_set, List.map_cons, List.append_assoc]
      rw [decide_eq_true (show (j : Int) < ((16 : Nat) : Int) by omega), decide_eq_false hne]
      refine Eq.trans (cond_t rfl) (Eq.trans (cond_f rfl) (Eq.trans (cond_t (inb_true (by omega) (by show _ < ((16 : Nat) : Int); have := Nat.mod_lt (n.toNat / 16 ^ (15 - j)) (show 16 > 0 by decide); omega))) (Eq.trans (cond_t (inb_true (by omega) (by omega))) (Eq.trans (cond_t (decide_eq_true (by omega))) (Eq.trans (cond_t (decide_eq_true (by omega))) (Eq.trans (cond_t (and_t hcn (and_t (decide_eq_true hn) hl))) ?_))))))
      rfl
    · obtain rfl : j = 16 := by omega
      rw [decide_eq_false (by omega), show es.take 16 = es from List.take_of_length_le (by omega)]
      show _ = k _ _ [some (.arr false (.int .u8) e (es ++ []) none)]
      rw [List.append_nil]
      rfl
  · cases h
theorem hxC_str (n : Int) : strAV ((List.range 16).map (hxC n)) = hexS n := by
  unfold strAV hexS
  rw [digs_map, List.map_map]
  refine List.map_congr_left fun i _ => ?_
  show UInt8.ofNat (((hd (n.toNat / 16 ^ (15 - i) % 16)).toNat : Nat) : Int).toNat = _
  rw [Int.toNat_natCast, UInt8.ofNat_toNat]
theorem ok76 : SumOK Tryz.prog 76 (ofT F38) ∧ SNat (ofT F38) := by
  refine fn1 (K := [(3, l76)]) (b := b76) (l := l76) gc Tryz.func76 (by kernel_rfl) (by kernel_rfl) loop76 fun ρ avs k r h => ?_
  unfold F38 at h
  split at h
  · rename_i n
    obtain ⟨hc, hk⟩ := gd_some h
    refine Eq.trans (b := bif cnt (↑[AV.int IntKind.u8 (0 : Int), AV.int IntKind.u8 (0 : Int), AV.int IntKind.u8 (0 : Int), AV.int IntKind.u8 (0 : Int), AV.int IntKind.u8 (0 : Int), AV.int IntKind.u8 (0 : Int), AV.int IntKind.u8 (0 : Int), AV.int IntKind.u8 (0 : Int), AV.int IntKind.u8 (0 : Int), AV.int IntKind.u8 (0 : Int), AV.int IntKind.u8 (0 : Int), AV.int IntKind.u8 (0 : Int), AV.int IntKind.u8 (0 : Int), AV.int IntKind.u8 (0 : Int), AV.int IntKind.u8 (0 : Int), AV.int IntKind.u8 (0 : Int)].length : Int) (0 : Int) (16 : Nat) && (uN n && decide ([AV.int IntKind.u8 (0 : Int), AV.int IntKind.u8 (0 : Int), AV.int IntKind.u8 (0 : Int), AV.int IntKind.u8 (0 : Int), AV.int IntKind.u8 (0 : Int), AV.int IntKind.u8 (0 : Int), AV.int IntKind.u8 (0 : Int), AV.int IntKind.u8 (0 : Int), AV.int IntKind.u8 (0 : Int), AV.int IntKind.u8 (0 : Int), AV.int IntKind.u8 (0 : Int), AV.int IntKind.u8 (0 : Int), AV.int IntKind.u8 (0 : Int), AV.int IntKind.u8 (0 : Int), AV.int IntKind.u8 (0 : Int), AV.int IntKind.u8 (0 : Int)].length = (16 : Nat))) then k (AV.str [(fun e => UInt8.ofNat e.toInt.toNat) (hxC n (0 : Nat)), (fun e => UInt8.ofNat e.toInt.toNat) (hxC n (Int.toNat (0 : Int) + (1 : Nat))), (fun e => UInt8.ofNat e.toInt.toNat) (hxC n (Int.toNat (0 : Int) + (1 : Nat) + (1 : Nat))), (fun e => UInt8.ofNat e.toInt.toNat) (hxC n (Int.toNat (0 : Int) + (1 : Nat) + (1 : Nat) + (1 : Nat))), (fun e => UInt8.ofNat e.toInt.toNat) (hxC n (Int.toNat (0 : Int) + (1 : Nat) + (1 : Nat) + (1 : Nat) + (1 : Nat))), (fun e => UInt8.ofNat e.toInt.toNat) (hxC n (Int.toNat (0 : Int) + (1 : Nat) + (1 : Nat) + (1 : Nat) + (1 : Nat) + (1 : Nat))), (fun e => UInt8.ofNat e.toInt.toNat) (hxC n (Int.toNat (0 : Int) + (1 : Nat) + (1 : Nat) + (1 : Nat) + (1 : Nat) + (1 : Nat) + (1 : Nat))), (fun e => UInt8.ofNat e.toInt.toNat) (hxC n (Int.toNat (0 : Int) + (1 : Nat) + (1 : Nat) + (1 : Nat) + (1 : Nat) + (1 : Nat) + (1 : Nat) + (1 : Nat))), (fun e => UInt8.ofNat e.toInt.toNat) (hxC n (Int.toNat (0 : Int) + (1 : Nat) + (1 : Nat) + (1 : Nat) + (1 : Nat) + (1 : Nat) + (1 : Nat) + (1 : Nat) + (1 : Nat))), (fun e => UInt8.ofNat e.toInt.toNat) (hxC n (Int.toNat (0 : Int) + (1 : Nat) + (1 : Nat) + (1 : Nat) + (1 : Nat) + (1 : Nat) + (1 : Nat) + (1 : Nat) + (1 : Nat) + (1 : Nat))), (fun e => UInt8.ofNat e.toInt.toNat) (hxC n (Int.toNat (0 : Int) + (1 : Nat) + (1 : Nat) + (1 : Nat) + (1 : Nat) + (1 : Nat) + (1 : Nat) + (1 : Nat) + (1 : Nat) + (1 : Nat) + (1 : Nat))), (fun e => UInt8.ofNat e.toInt.toNat) (hxC n (Int.toNat (0 : Int) + (1 : Nat) + (1 : Nat) + (1 : Nat) + (1 : Nat) + (1 : Nat) + (1 : Nat) + (1 : Nat) + (1 : Nat) + (1 : Nat) + (1 : Nat) + (1 : Nat))), (fun e => UInt8.ofNat e.toInt.toNat) (hxC n (Int.toNat (0 : Int) + (1 : Nat) + (1 : Nat) + (1 : Nat) + (1 : Nat) + (1 : Nat) + (1 : Nat) + (1 : Nat) + (1 : Nat) + (1 : Nat) + (1 : Nat) + (1 : Nat) + (1 : Nat))), (fun e => UInt8.ofNat e.toInt.toNat) (hxC n (Int.toNat (0 : Int) + (1 : Nat) + (1 : Nat) + (1 : Nat) + (1 : Nat) + (1 : Nat) + (1 : Nat) + (1 : Nat) + (1 : Nat) + (1 : Nat) + (1 : Nat) + (1 : Nat) + (1 : Nat) + (1 : Nat))), (fun e => UInt8.ofNat e.toInt.toNat) (hxC n (Int.toNat (0 : Int) + (1 : Nat) + (1 : Nat) + (1 : Nat) + (1 : Nat) + (1 : Nat) + (1 : Nat) + (1 : Nat) + (1 : Nat) + (1 : Nat) + (1 : Nat) + (1 : Nat) + (1 : Nat) + (1 : Nat) + (1 : Nat))), (fun e => UInt8.ofNat e.toInt.toNat) (hxC n (Int.toNat (0 : Int) + (1 : Nat) + (1 : Nat) + (1 : Nat) + (1 : Nat) + (1 : Nat) + (1 : Nat) + (1 : Nat) + (1 : Nat) + (1 : Nat) + (1 : Nat) + (1 : Nat) + (1 : Nat) + (1 : Nat) + (1 : Nat) + (1 : Nat)))]) else none) (by kernel_rfl) ?_
    rw [← hk, ← hxC_str]
    refine Eq.trans (cond_t (and_t rfl (and_t hc rfl))) ?_
    rfl
  · cases h
def d10 : List UInt8 := [48, 49, 50, 51, 52, 53, 54, 55, 56, 57]
theorem d10_take : ∀ m, m < 10 → List.take ((m + 1) - m) (List.drop m d10) = [UInt8.ofNat (48 + m)] := by decide +kernel
def tenS (n : Int) (s : List UInt8) : List UInt8 := [UInt8.ofNat (48 + n.toNat / 10)] ++ s
noncomputable def b66 : Code := ((Tryz.f66.body.map loopsOf).getD []).headD .skip
def tens (n : Int) : Bool := decide (n ≥ 10)
def L66 : List AV → List (Option Row) → Tr LOut
  | [.int .i64 n, .str d, .str s], [] =>
    .gd (inR n 0 99 && (d == d10 && decide ((s.length : Int) + n ≤ 200))) (.br (tens n)
      (.leaf (.exit 0, [.int .i64 (n / 10), .str d, .str (tenS n s)], []))
      (.leaf (.exit 0, [.int .i64 n, .str d, .str s], [])))
  | _, _ => .no
def l66 : Ev.Loop := ⟨{ len := 26, slots := [0, 3, 4] }, ofL L66⟩
def μ66 (vs : List AV) (_ : List (Option Row)) : Nat := match vs with
  | [.int _ n, _, _] => n.toNat
  | _ => 0
theorem loop66 : LoopOK Tryz.prog G0 [(3, l66)] b66 l66 := by
  refine loopT g0.natOK rfl (KOK.nil (by kernel_rfl)) μ66 (fun ρ vs rs k r h => ?_)
  unfold L66 at h
  split at h
  · rename_i n d s
    obtain ⟨hc, hk⟩ := gd_some h
    simp only [Bool.and_eq_true] at hc
    obtain ⟨hn, hd, hl⟩ := hc
    refine Eq.trans (b := bif decide (n ≥ (10 : Int)) then bif slb ((IntKind.i64.wrap (n.tdiv (10 : Int))).tmod (10 : Int)) (IntKind.i64.wrap ((IntKind.i64.wrap (n.tdiv (10 : Int))).tmod (10 : Int) + (1 : Int))) d.length then bif lenB ((List.take ((IntKind.i64.wrap ((IntKind.i64.wrap (n.tdiv (10 : Int))).tmod (10 : Int) + (1 : Int))).toNat - ((IntKind.i64.wrap (n.tdiv (10 : Int))).tmod (10 : Int)).toNat) (List.drop ((IntKind.i64.wrap (n.tdiv (10 : Int))).tmod (10 : Int)).toNat d)).length + s.length) then bif decide ((IntKind.i64.wrap (n.tdiv (10 : Int))).toNat < n.toNat) then bif inR (IntKind.i64.wrap (n.tdiv (10 : Int))) (0 : Int) (99 : Int) && (d == d10 && decide ((↑(List.take ((IntKind.i64.wrap ((IntKind.i64.wrap (n.tdiv (10 : Int))).tmod (10 : Int) + (1 : Int))).toNat - ((IntKind.i64.wrap (n.tdiv (10 : Int))).tmod (10 : Int)).toNat) (List.drop ((IntKind.i64.wrap (n.tdiv (10 : Int))).tmod (10 : Int)).toNat d) ++ s).length : Int) + IntKind.i64.wrap (n.tdiv (10 : Int)) ≤ (200 : Int))) then bif tens (IntKind.i64.wrap (n.tdiv (10 : Int))) then k (Ex.exit (0 : Nat)) [AV.int IntKind.i64 (IntKind.i64.wrap (n.tdiv (10 : Int)) / (10 : Int)), AV.str d, AV.str (tenS (IntKind.i64.wrap (n.tdiv (10 : Int))) (List.take ((IntKind.i64.wrap ((IntKind.i64.wrap (n.tdiv (10 : Int))).tmod (10 : Int) + (1 : Int))).toNat - ((IntKind.i64.wrap (n.tdiv (10 : Int))).tmod (10 : Int)).toNat) (List.drop ((IntKind.i64.wrap (n.tdiv (10 : Int))).tmod (10 : Int)).toNat d) ++ s))] [] else k (Ex.exit (0 : Nat)) [AV.int IntKind.i64 (IntKind.i64.wrap (n.tdiv (10 : Int))), AV.str d, AV.str (List.take ((IntKind.i64.wrap ((IntKind.i64.wrap (n.tdiv (10 : Int))).tmod (10 : Int) + (1 : Int))).toNat - ((IntKind.i64.wrap (n.tdiv (10 : Int))).tmod (10 : Int)).toNat) (List.drop ((IntKind.i64.wrap (n.tdiv (10 : Int))).tmod (10 : Int)).toNat d) ++ s)] [] else none else none else none else none else k (Ex.exit (0 : Nat)) [AV.int IntKind.i64 n, AV.str d, AV.str s] []) (by kernel_rfl) ?_
    rw [← hk]
    obtain ⟨n0, n9⟩ := inR_spec hn
    obtain rfl : d = d10 := by simpa using hd
    have hl' : (s.length : Int) + n ≤ 200 := of_decide_eq_true hl
    obtain ⟨m, rfl⟩ : ∃ m : Nat, n = m := ⟨n.toNat, by omega⟩
    by_cases hlt : m ≥ 10
    · have t1 : IntKind.i64.wrap ((m : Int).tdiv 10) = ((m / 10 : Nat) : Int) := wrap_small ((m / 10 : Nat) : Int) (by omega) (by omega)
      have t2 : (((m / 10 : Nat) : Int)).tmod 10 = ((m / 10 : Nat) : Int) := by show ((m / 10 % 10 : Nat) : Int) = _; omega
      have t3 : IntKind.i64.wrap (((m / 10 : Nat) : Int) + 1) = ((m / 10 + 1 : Nat) : Int) := by rw [wrap_small _ (by omega) (by omega)]; omega
      have hd := d10_take (m / 10) (by omega)
      simp only [t1, t2, t3, Int.toNat_natCast, hd]
      have ht : tens ((m / 10 : Nat) : Int) = false := decide_eq_false (by omega)
      rw [ht, decide_eq_true (show (m : Int) ≥ 10 by omega), show tens (m : Int) = true from decide_eq_true (by omega)]
      refine Eq.trans (cond_t rfl) (Eq.trans (cond_t (slb_true (by omega) (by omega) (by show _ ≤ ((10 : Nat) : Int); omega))) (Eq.trans (cond_t (decide_eq_true (by rw [List.length_singleton]; omega))) (Eq.trans (cond_t (decide_eq_true (by omega))) (Eq.trans (cond_t (and_t (inR_of (by omega) (by omega)) (and_t (beq_self_eq_true _) (decide_eq_true ?_)))) ?_))))
      · rw [List.length_append, List.length_singleton]; omega
      · rfl
    · rw [decide_eq_false (show ¬ (m : Int) ≥ 10 by omega), show tens (m : Int) = false from decide_eq_false (by omega)]
      rfl
  · cases h
def F66 : List AV → Tr AV
  | [.int .i64 n] => .gd (inR n 0 99) (.leaf (.str (dig n.toNat)))
  | _ => .no
theorem ok66 : SumOK Tryz.prog 66 (ofT F66) ∧ SNat (ofT F66) := by
  refine fn1 (K := [(3, l66)]) (b := b66) (l := l66) g0 Tryz.func66 (by kernel_rfl) (by kernel_rfl) loop66 fun ρ avs k r h => ?_
  unfold F66 at h
  split at h
  · rename_i n
    obtain ⟨hc, hk⟩ := gd_some h
    refine Eq.trans (b := bif slb (n.tmod (10 : Int)) (IntKind.i64.wrap (n.tmod (10 : Int) + (1 : Int))) ([48, 49, 50, 51, 52, 53, 54, 55, 56, 57] : List UInt8).length then bif inR n (0 : Int) (99 : Int) && (([48, 49, 50, 51, 52, 53, 54, 55, 56, 57] : List UInt8) == d10 && decide ((↑(List.take ((IntKind.i64.wrap (n.tmod (10 : Int) + (1 : Int))).toNat - (n.tmod (10 : Int)).toNat) (List.drop (n.tmod (10 : Int)).toNat ([48, 49, 50, 51, 52, 53, 54, 55, 56, 57] : List UInt8))).length : Int) + n ≤ (200 : Int))) then bif tens n then k (AV.str (tenS n (List.take ((IntKind.i64.wrap (n.tmod (10 : Int) + (1 : Int))).toNat - (n.tmod (10 : Int)).toNat) (List.drop (n.tmod (10 : Int)).toNat ([48, 49, 50, 51, 52, 53, 54, 55, 56, 57] : List UInt8))))) else k (AV.str (List.take ((IntKind.i64.wrap (n.tmod (10 : Int) + (1 : Int))).toNat - (n.tmod (10 : Int)).toNat) (List.drop (n.tmod (10 : Int)).toNat ([48, 49, 50, 51, 52, 53, 54, 55, 56, 57] : List UInt8)))) else none else none) (by kernel_rfl) ?_
    rw [← hk]
    obtain ⟨n0, n9⟩ := inR_spec hc
    obtain ⟨m, rfl⟩ : ∃ m : Nat, n = m := ⟨n.toNat, by omega⟩
    have t2 : ((m : Int)).tmod 10 = ((m % 10 : Nat) : Int) := rfl
    have t3 : IntKind.i64.wrap (((m % 10 : Nat) : Int) + 1) = ((m % 10 + 1 : Nat) : Int) := by rw [wrap_small _ (by omega) (by omega)]; omega
    have hd := d10_take (m % 10) (Nat.mod_lt _ (by decide))
    have hd' : List.take (m % 10 + 1 - m % 10) (List.drop (m % 10) [48, 49, 50, 51, 52, 53, 54, 55, 56, 57]) = [UInt8.ofNat (48 + m % 10)] := hd
    simp only [t2, t3, Int.toNat_natCast, hd']
    refine Eq.trans (cond_t (slb_true (by omega) (by omega) (by show _ ≤ ((10 : Nat) : Int); omega))) (Eq.trans (cond_t (and_t hc (and_t rfl (decide_eq_true (by rw [List.length_singleton]; omega))))) ?_)
    unfold dig tens tenS
    by_cases h10 : m ≥ 10
    · rw [decide_eq_true (show (m : Int) ≥ 10 by omega), show Nat.blt m 10 = false from Bool.eq_false_iff.2 fun hb => absurd (Nat.le_of_ble_eq_true hb) (by omega)]
      rfl
    · rw [decide_eq_false (show ¬ (m : Int) ≥ 10 by omega), show Nat.blt m 10 = true from Nat.ble_eq_true_of_le (by omega), show m % 10 = m from Nat.mod_eq_of_lt (by omega)]
      rfl
  · cases h
end Go.Proofs.YthdhfmdhjanoaaaGreatDoor

namespace Go.Proofs.YthdhfmdhjanoaaaGreatDoor
open Go.Ev
def cutP (s p : List UInt8) : Nat → Int → Nat → List (List UInt8) × Int × Int
  | 0, fr, i => ([], fr, i)
  | f + 1, fr, i => bif decide (i + p.length ≤ s.length) then (bif decide ((i : Int) ≥ fr) && ((s.drop i).take (i + p.length - i) == p) then ((s.drop fr.toNat).take (i - fr.toNat) :: (cutP s p f ((i + p.length : Nat) : Int) (i + 1)).1, (cutP s p f ((i + p.length : Nat) : Int) (i + 1)).2) else cutP s p f fr (i + 1)) else ([], fr, i)
theorem cutP_step (s p : List UInt8) (f : Nat) (fr : Int) (i : Nat) : cutP s p (f + 1) fr i = bif decide (i + p.length ≤ s.length) then (bif decide ((i : Int) ≥ fr) && ((s.drop i).take (i + p.length - i) == p) then ((s.drop fr.toNat).take (i - fr.toNat) :: (cutP s p f ((i + p.length : Nat) : Int) (i + 1)).1, (cutP s p f ((i + p.length : Nat) : Int) (i + 1)).2) else cutP s p f fr (i + 1)) else ([], fr, i) := rfl
theorem cutP_fuel (s p : List UInt8) : ∀ (f g : Nat) (fr : Int) (i : Nat), s.length < i + f → s.length < i + g → 1 ≤ p.length → cutP s p f fr i = cutP s p g fr i
  | 0, 0, _, _, _, _, _ => rfl
  | 0, g + 1, fr, i, h, _, h1 => by
    rw [cutP_step, decide_eq_false (by omega)]; rfl
  | f + 1, 0, fr, i, _, h, h1 => by
    rw [cutP_step, decide_eq_false (by omega)]; rfl
  | f + 1, g + 1, fr, i, h, h', h1 => by
    rw [cutP_step, cutP_step, cutP_fuel s p f g fr (i + 1) (by omega) (by omega) h1, cutP_fuel s p f g ((i + p.length : Nat) : Int) (i + 1) (by omega) (by omega) h1]
theorem cutP_R (s p : List UInt8) : ∀ (f fr i : Nat), (cutP s p f fr i).1 ++ [s.drop (cutP s p f fr i).2.1.toNat] = cutR s p f fr i
  | 0, fr, i => rfl
  | f + 1, fr, i => by
    rw [cutP_step, cutR_step]
    cases decide (i + p.length ≤ s.length)
    · rfl
    · have e : decide ((i : Int) ≥ (fr : Int)) = decide (fr ≤ i) := decide_eq_decide.2 (by omega)
      rw [e, show i + p.length - i = p.length from by omega]
      cases (decide (fr ≤ i) && ((s.drop i).take p.length == p))
      · exact cutP_R s p f fr (i + 1)
      · simp only [cond_true, List.cons_append]
        rw [cutP_R s p f (i + p.length) (i + 1)]
        rfl
theorem cutP_r (s p : List UInt8) : ∀ (f : Nat) (fr : Int) (i : Nat), 0 ≤ fr → fr ≤ s.length → 0 ≤ (cutP s p f fr i).2.1 ∧ (cutP s p f fr i).2.1 ≤ s.length ∧ (cutP s p f fr i).1.length ≤ f
  | 0, fr, i, h, h' => ⟨h, h', Nat.le_refl _⟩
  | f + 1, fr, i, h, h' => by
    rw [cutP_step]
    cases hl : decide (i + p.length ≤ s.length)
    · exact ⟨h, h', Nat.zero_le _⟩
    · cases (decide ((i : Int) ≥ fr) && ((s.drop i).take (i + p.length - i) == p))
      · obtain ⟨a, b, c⟩ := cutP_r s p f fr (i + 1) h h'
        exact ⟨a, b, Nat.le_succ_of_le c⟩
      · have := of_decide_eq_true hl
        obtain ⟨a, b, c⟩ := cutP_r s p f ((i + p.length : Nat) : Int) (i + 1) (by omega) (by omega)
        exact ⟨a, b, Nat.succ_le_succ c⟩
theorem cut_at {s p : List UInt8} {a j : Nat} (hl : j + p.length ≤ s.length) (hp : 1 ≤ p.length) : cutP s p (s.length + 1 - j) a j = bif decide ((j : Int) ≥ a) && ((s.drop j).take (j + p.length - j) == p) then ((s.drop a).take (j - a) :: (cutP s p (s.length + 1 - (j + 1)) ((j + p.length : Nat) : Int) (j + 1)).1, (cutP s p (s.length + 1 - (j + 1)) ((j + p.length : Nat) : Int) (j + 1)).2) else cutP s p (s.length + 1 - (j + 1)) a (j + 1) := by
  rw [show s.length + 1 - j = s.length + 1 - (j + 1) + 1 from by omega, cutP_step, decide_eq_true hl]
  rfl
noncomputable def b60 : Code := ((Tryz.f60.body.map loopsOf).getD []).headD .skip
def cutI (s p : List UInt8) (fr i : Int) : Int := (cutP s p (s.length + 1 - i.toNat) fr i.toNat).2.2
def cutF (s p : List UInt8) (fr i : Int) : Int := (cutP s p (s.length + 1 - i.toNat) fr i.toNat).2.1
def cutL (s p : List UInt8) (fr i : Int) : List AV := strs (cutP s p (s.length + 1 - i.toNat) fr i.toNat).1
theorem cutF_no {s p : List UInt8} {a j : Nat} (hl : j + p.length ≤ s.length) (hp : 1 ≤ p.length) (hm : (decide ((j : Int) ≥ a) && ((s.drop j).take (j + p.length - j) == p)) = false) : cutF s p a j = cutF s p a ((j + 1 : Nat) : Int) := by
  unfold cutF; simp only [Int.toNat_natCast]; rw [cut_at hl hp, hm]; rfl
theorem cutI_no {s p : List UInt8} {a j : Nat} (hl : j + p.length ≤ s.length) (hp : 1 ≤ p.length) (hm : (decide ((j : Int) ≥ a) && ((s.drop j).take (j + p.length - j) == p)) = false) : cutI s p a j = cutI s p a ((j + 1 : Nat) : Int) := by
  unfold cutI; simp only [Int.toNat_natCast]; rw [cut_at hl hp, hm]; rfl
theorem cutL_no {s p : List UInt8} {a j : Nat} (hl : j + p.length ≤ s.length) (hp : 1 ≤ p.length) (hm : (decide ((j : Int) ≥ a) && ((s.drop j).take (j + p.length - j) == p)) = false) : cutL s p a j = cutL s p a ((j + 1 : Nat) : Int) := by
  unfold cutL; simp only [Int.toNat_natCast]; rw [cut_at hl hp, hm]; rfl
theorem cutF_hit {s p : List UInt8} {a j : Nat} (hl : j + p.length ≤ s.length) (hp : 1 ≤ p.length) (hm : (decide ((j : Int) ≥ a) && ((s.drop j).take (j + p.length - j) == p)) = true) : cutF s p a j = cutF s p ((j + p.length : Nat) : Int) ((j + 1 : Nat) : Int) := by
  unfold cutF; simp only [Int.toNat_natCast]; rw [cut_at hl hp, hm]; rfl
theorem cutI_hit {s p : List UInt8} {a j : Nat} (hl : j + p.length ≤ s.length) (hp : 1 ≤ p.length) (hm : (decide ((j : Int) ≥ a) && ((s.drop j).take (j + p.length - j) == p)) = true) : cutI s p a j = cutI s p ((j + p.length : Nat) : Int) ((j + 1 : Nat) : Int) := by
  unfold cutI; simp only [Int.toNat_natCast]; rw [cut_at hl hp, hm]; rfl
theorem cutL_hit {s p : List UInt8} {a j : Nat} (hl : j + p.length ≤ s.length) (hp : 1 ≤ p.length) (hm : (decide ((j : Int) ≥ a) && ((s.drop j).take (j + p.length - j) == p)) = true) : cutL s p a j = .str ((s.drop a).take (j - a)) :: cutL s p ((j + p.length : Nat) : Int) ((j + 1 : Nat) : Int) := by
  unfold cutL; simp only [Int.toNat_natCast]; rw [cut_at hl hp, hm]; rfl
theorem cut_end {s p : List UInt8} {fr : Int} {j : Nat} (hl : ¬ j + p.length ≤ s.length) : cutF s p fr j = fr ∧ cutI s p fr j = j ∧ cutL s p fr j = [] := by
  have h : ∀ f, cutP s p f fr j = ([], fr, ((j : Nat) : Int)) := fun f => by
    cases f with
    | zero => rfl
    | succ f => rw [cutP_step, decide_eq_false hl]; rfl
  unfold cutF cutI cutL
  simp only [Int.toNat_natCast]
  rw [h]
  exact ⟨rfl, rfl, rfl⟩
def L60 : List AV → List (Option Row) → Tr LOut
  | [.str s, .str p, .own 900, .int .i64 fr, .int .i64 i], [some (.arr false .str e es none)] =>
    .gd (decide (0 ≤ fr ∧ fr ≤ s.length ∧ 0 ≤ i ∧ i ≤ s.length + 1 ∧ s.length ≤ 1000000 ∧ es.length ≤ i.toNat ∧ e = 9) && decide (1 ≤ p.length ∧ p.length ≤ 1000000)) (.leaf (.exit 0, [.str s, .str p, .own 900, .int .i64 (cutF s p fr i), .int .i64 (cutI s p fr i)], [some (.arr false .str e (es ++ cutL s p fr i) none)]))
  | _, _ => .no
def l60 : Ev.Loop := ⟨{ len := 48, slots := [0, 1, 5, 6, 7], rows := [900], homes := [(5, 900, 9)] }, ofL L60⟩
def μ60 (vs : List AV) (_ : List (Option Row)) : Nat := match vs with
  | [.str s, _, _, _, .int _ i] => ((s.length : Int) + 1 - i).toNat
  | _ => 0
theorem loop60 : LoopOK Tryz.prog G0 [(4, l60)] b60 l60 := by
  refine loopT g0.natOK rfl (KOK.nil (by kernel_rfl)) μ60 (fun ρ vs rs k r h => ?_)
  unfold L60 at h
  split at h
  · rename_i s p fr i e es
    obtain ⟨hc, hk⟩ := gd_some h
    simp only [Bool.and_eq_true] at hc
    obtain ⟨hb0, hp0⟩ := hc
    obtain ⟨h1, h2, h3, h4, h5, h6, rfl⟩ := of_decide_eq_true hb0
    refine Eq.trans (b := bif decide (IntKind.i64.wrap (i + (↑p.length : Int)) ≤ (↑s.length : Int)) then bif decide (i ≥ fr) then bif slb i (IntKind.i64.wrap (i + (↑p.length : Int))) s.length then bif List.take ((IntKind.i64.wrap (i + (↑p.length : Int))).toNat - i.toNat) (List.drop i.toNat s) == p then bif slb fr i s.length then bif roomB (es.length + [AV.str (List.take (i.toNat - fr.toNat) (List.drop fr.toNat s))].length) (Tryz.prog.bytesOf (9 : Nat)) then bif decide (((↑s.length : Int) + (1 : Int) - IntKind.i64.wrap (i + (1 : Int))).toNat < ((↑s.length : Int) + (1 : Int) - i).toNat) then bif decide ((0 : Int) ≤ IntKind.i64.wrap (i + (↑p.length : Int)) ∧ IntKind.i64.wrap (i + (↑p.length : Int)) ≤ (↑s.length : Int) ∧ (0 : Int) ≤ IntKind.i64.wrap (i + (1 : Int)) ∧ IntKind.i64.wrap (i + (1 : Int)) ≤ (↑s.length : Int) + (1 : Int) ∧ s.length ≤ (1000000 : Nat) ∧ (es ++ [AV.str (List.take (i.toNat - fr.toNat) (List.drop fr.toNat s))]).length ≤ (IntKind.i64.wrap (i + (1 : Int))).toNat ∧ (9 : Nat) = (9 : TypeId)) && decide ((1 : Nat) ≤ p.length ∧ p.length ≤ (1000000 : Nat)) then k (Ex.exit (0 : Nat)) [AV.str s, AV.str p, AV.own (900 : Nat), AV.int IntKind.i64 (cutF s p (IntKind.i64.wrap (i + (↑p.length : Int))) (IntKind.i64.wrap (i + (1 : Int)))), AV.int IntKind.i64 (cutI s p (IntKind.i64.wrap (i + (↑p.length : Int))) (IntKind.i64.wrap (i + (1 : Int))))] [some (Row.arr false Sh.str (9 : Nat) (es ++ [AV.str (List.take (i.toNat - fr.toNat) (List.drop fr.toNat s))] ++ cutL s p (IntKind.i64.wrap (i + (↑p.length : Int))) (IntKind.i64.wrap (i + (1 : Int)))) none)] else none else none else none else none else bif decide (((↑s.length : Int) + (1 : Int) - IntKind.i64.wrap (i + (1 : Int))).toNat < ((↑s.length : Int) + (1 : Int) - i).toNat) then bif decide ((0 : Int) ≤ fr ∧ fr ≤ (↑s.length : Int) ∧ (0 : Int) ≤ IntKind.i64.wrap (i + (1 : Int)) ∧ IntKind.i64.wrap (i + (1 : Int)) ≤ (↑s.length : Int) + (1 : Int) ∧ s.length ≤ (1000000 : Nat) ∧ es.length ≤ (IntKind.i64.wrap (i + (1 : Int))).toNat ∧ (9 : TypeId) = (9 : TypeId)) && decide ((1 : Nat) ≤ p.length ∧ p.length ≤ (1000000 : Nat)) then k (Ex.exit (0 : Nat)) [AV.str s, AV.str p, AV.own (900 : Nat), AV.int IntKind.i64 (cutF s p fr (IntKind.i64.wrap (i + (1 : Int)))), AV.int IntKind.i64 (cutI s p fr (IntKind.i64.wrap (i + (1 : Int))))] [some (Row.arr false Sh.str (9 : Nat) (es ++ cutL s p fr (IntKind.i64.wrap (i + (1 : Int)))) none)] else none else none else none else bif decide (((↑s.length : Int) + (1 : Int) - IntKind.i64.wrap (i + (1 : Int))).toNat < ((↑s.length : Int) + (1 : Int) - i).toNat) then bif decide ((0 : Int) ≤ fr ∧ fr ≤ (↑s.length : Int) ∧ (0 : Int) ≤ IntKind.i64.wrap (i + (1 : Int)) ∧ IntKind.i64.wrap (i + (1 : Int)) ≤ (↑s.length : Int) + (1 : Int) ∧ s.length ≤ (1000000 : Nat) ∧ es.length ≤ (IntKind.i64.wrap (i + (1 : Int))).toNat ∧ (9 : TypeId) = (9 : TypeId)) && decide ((1 : Nat) ≤ p.length ∧ p.length ≤ (1000000 : Nat)) then k (Ex.exit (0 : Nat)) [AV.str s, AV.str p, AV.own (900 : Nat), AV.int IntKind.i64 (cutF s p fr (IntKind.i64.wrap (i + (1 : Int)))), AV.int IntKind.i64 (cutI s p fr (IntKind.i64.wrap (i + (1 : Int))))] [some (Row.arr false Sh.str (9 : Nat) (es ++ cutL s p fr (IntKind.i64.wrap (i + (1 : Int)))) none)] else none else none else k (Ex.exit (0 : Nat)) [AV.str s, AV.str p, AV.own (900 : Nat), AV.int IntKind.i64 fr, AV.int IntKind.i64 i] [some (Row.arr false Sh.str (9 : Nat) es none)]) (by kernel_rfl) ?_
    rw [← hk]
    clear hb0
    obtain ⟨p1, p2⟩ := of_decide_eq_true hp0
    obtain ⟨j, rfl⟩ : ∃ j : Nat, i = j := ⟨i.toNat, by omega⟩
    obtain ⟨a, rfl⟩ : ∃ a : Nat, fr = a := ⟨fr.toNat, by omega⟩
    have w1 : IntKind.i64.wrap ((j : Int) + 1) = ((j + 1 : Nat) : Int) := by rw [wrap_mid _ (by omega) (by omega)]; omega
    have w2 : IntKind.i64.wrap ((j : Int) + (p.length : Int)) = ((j + p.length : Nat) : Int) := by rw [wrap_mid _ (by omega) (by omega)]; omega
    have r9 : ∀ x : AV, roomB (es.length + [x].length) (Tryz.prog.bytesOf 9) = true := fun x => roomB_small (by show _ + 1 ≤ _; omega) by9
    simp only [w1, w2, Int.toNat_natCast] at h6 ⊢
    by_cases hl : j + p.length ≤ s.length
    · have dm : decide (((s.length : Int) + 1 - ((j + 1 : Nat) : Int)).toNat < ((s.length : Int) + 1 - (j : Int)).toNat) = true := decide_eq_true (by omega)
      have dl : decide (((j + p.length : Nat) : Int) ≤ (s.length : Int)) = true := decide_eq_true (by omega)
      have g0 : (decide ((0 : Int) ≤ (a : Int) ∧ (a : Int) ≤ (s.length : Int) ∧ (0 : Int) ≤ ((j + 1 : Nat) : Int) ∧ ((j + 1 : Nat) : Int) ≤ (s.length : Int) + 1 ∧ s.length ≤ 1000000 ∧ es.length ≤ j + 1 ∧ True) && decide (1 ≤ p.length ∧ p.length ≤ 1000000)) = true := and_t (decide_eq_true ⟨by omega, by omega, by omega, by omega, by omega, by omega, trivial⟩) hp0
      have g1 : ∀ x : AV, (decide ((0 : Int) ≤ ((j + p.length : Nat) : Int) ∧ ((j + p.length : Nat) : Int) ≤ (s.length : Int) ∧ (0 : Int) ≤ ((j + 1 : Nat) : Int) ∧ ((j + 1 : Nat) : Int) ≤ (s.length : Int) + 1 ∧ s.length ≤ 1000000 ∧ (es ++ [x]).length ≤ j + 1 ∧ True) && decide (1 ≤ p.length ∧ p.length ≤ 1000000)) = true := fun x => and_t (decide_eq_true ⟨by omega, by omega, by omega, by omega, by omega, by rw [List.length_append, List.length_singleton]; omega, trivial⟩) hp0
      have hf : s.length + 1 - j = s.length + 1 - (j + 1) + 1 := by omega
      by_cases ha : a ≤ j
      · have da : decide ((j : Int) ≥ (a : Int)) = true := decide_eq_true (by omega)
        have s1 : slb (j : Int) ((j + p.length : Nat) : Int) s.length = true := slb_true (by omega) (by omega) (by omega)
        have s2 : slb (a : Int) (j : Int) s.length = true := slb_true (by omega) (by omega) (by omega)
        cases hm : ((s.drop j).take (j + p.length - j) == p)
        · rw [cutF_no hl p1 (by rw [hm, Bool.and_false]), cutI_no hl p1 (by rw [hm, Bool.and_false]), cutL_no hl p1 (by rw [hm, Bool.and_false])]
          refine Eq.trans (cond_t dl) (Eq.trans (cond_t da) (Eq.trans (cond_t s1) (Eq.trans (cond_f rfl) (Eq.trans (cond_t dm) (Eq.trans (cond_t g0) rfl)))))
        · rw [cutF_hit hl p1 (by rw [hm, da]; rfl), cutI_hit hl p1 (by rw [hm, da]; rfl), cutL_hit hl p1 (by rw [hm, da]; rfl)]
          refine Eq.trans (cond_t dl) (Eq.trans (cond_t da) (Eq.trans (cond_t s1) (Eq.trans (cond_t rfl) (Eq.trans (cond_t s2) (Eq.trans (cond_t (r9 _)) (Eq.trans (cond_t dm) (Eq.trans (cond_t (g1 _)) ?_)))))))
          rw [List.append_assoc]
          rfl
      · have da : decide ((j : Int) ≥ (a : Int)) = false := decide_eq_false (by omega)
        rw [cutF_no hl p1 (by rw [da, Bool.false_and]), cutI_no hl p1 (by rw [da, Bool.false_and]), cutL_no hl p1 (by rw [da, Bool.false_and])]
        refine Eq.trans (cond_t dl) (Eq.trans (cond_f da) (Eq.trans (cond_t dm) (Eq.trans (cond_t g0) rfl)))
    · obtain ⟨e1, e2, e3⟩ := cut_end (fr := a) hl
      rw [decide_eq_false (show ¬ ((j + p.length : Nat) : Int) ≤ (s.length : Int) by omega), e1, e2, e3, List.append_nil]
      rfl
  · cases h
def F60 : List AV → List Row → Tr XOut
  | [.str s, .str p], [] => .gd (decide (s.length ≤ 1000000) && decide (1 ≤ p.length ∧ p.length ≤ 1000000)) (.leaf (.own RID, [], [.arr false .str 9 ((Lib.split s p).map AV.str) none]))
  | _, _ => .no
theorem cut_split {s p : List UInt8} (hp : 1 ≤ p.length) : cutL s p 0 0 ++ [.str (s.drop (cutF s p 0 0).toNat)] = (Lib.split s p).map AV.str := by
  have h := cutP_R s p (s.length + 1) 0 0
  have h2 := cutR_eq (s := s) (p := p) (List.ne_nil_of_length_pos hp) (s.length + 1) 0 0 (by omega) (by omega) (by omega) (fun j _ hj => absurd hj (Nat.not_lt_zero _))
  rw [List.drop_zero] at h2
  rw [← h2, ← h, List.map_append]
  rfl
theorem ok60 : XOK Tryz.prog 60 (ofX F60) ∧ XNat (ofX F60) := by
  refine ⟨xsum1 (K := [(4, l60)]) (H := [(5, 900, 9)]) (b := b60) (l := l60) g0 Tryz.func60 (by kernel_rfl) (by kernel_rfl) loop60 fun ρ avs rows k r h => ?_, xnat_ofX F60⟩
  have h' : (F60 avs rows).run (fun q => k q.1 q.2.1 q.2.2) = some r := h
  unfold F60 at h'
  split at h'
  · rename_i s p
    obtain ⟨hc, hk⟩ := gd_some h'
    refine ⟨by simp, fun rows' hsp => ?_⟩
    obtain rfl : rows' = [] := by
      cases rows' with
      | nil => rfl
      | cons a l => exact hsp.elim
    refine Eq.trans (b := bif decide ((0 : Int) ≤ (0 : Int) ∧ (0 : Int) ≤ (↑s.length : Int) ∧ (0 : Int) ≤ (0 : Int) ∧ (0 : Int) ≤ (↑s.length : Int) + (1 : Int) ∧ s.length ≤ (1000000 : Nat) ∧ ([] : List AV).length ≤ Int.toNat (0 : Int) ∧ ((5 : Nat), (900 : Nat), (9 : TypeId)).snd.snd = (9 : TypeId)) && decide ((1 : Nat) ≤ p.length ∧ p.length ≤ (1000000 : Nat)) then bif slb (cutF s p (0 : Int) (0 : Int)) (↑s.length : Int) s.length then bif roomB (([] ++ cutL s p (0 : Int) (0 : Int)).length + [AV.str (List.take ((↑s.length : Int).toNat - (cutF s p (0 : Int) (0 : Int)).toNat) (List.drop (cutF s p (0 : Int) (0 : Int)).toNat s))].length) (Tryz.prog.bytesOf (9 : Nat)) then k (AV.own (2251799813685248 : Nat)) [] [Row.arr false Sh.str (9 : Nat) ([] ++ cutL s p (0 : Int) (0 : Int) ++ [AV.str (List.take ((↑s.length : Int).toNat - (cutF s p (0 : Int) (0 : Int)).toNat) (List.drop (cutF s p (0 : Int) (0 : Int)).toNat s))]) none] else none else none else none) (by kernel_rfl) ?_
    simp only [Bool.and_eq_true] at hc
    obtain ⟨h1, h2⟩ := hc
    have h1' := of_decide_eq_true h1
    obtain ⟨p1, p2⟩ := of_decide_eq_true h2
    rw [← hk, ← cut_split p1, List.nil_append]
    obtain ⟨c1, c2, c3⟩ := cutP_r s p (s.length + 1) 0 0 (Int.le_refl _) (by omega)
    have c1 : 0 ≤ cutF s p 0 0 := c1
    have c2 : cutF s p 0 0 ≤ s.length := c2
    have c4 : (cutL s p 0 0).length ≤ s.length + 1 := by
      unfold cutL strs
      rw [List.length_map]
      exact c3
    have ht : List.take (s.length - (cutF s p 0 0).toNat) (List.drop (cutF s p 0 0).toNat s) = s.drop (cutF s p 0 0).toNat := List.take_of_length_le (by rw [List.length_drop]; exact Nat.le_refl _)
    simp only [Int.toNat_natCast, ht]
    refine Eq.trans (cond_t (and_t (decide_eq_true ⟨Int.le_refl _, by omega, Int.le_refl _, by omega, h1', Nat.le_refl _, trivial⟩) h2)) (Eq.trans (cond_t (slb_true (by omega) (by omega) (Int.le_refl _))) (Eq.trans (cond_t (roomB_small (by show _ + 1 ≤ _; omega) by9)) rfl))
  · cases h'
def sL (es : List AV) : List (List UInt8) := es.map sE
def jt (p : List UInt8) (i : Int) : List (List UInt8) → List UInt8
  | [] => []
  | x :: r => bif decide (i > 0) then p ++ x ++ Lib.joinTail p r else x ++ Lib.joinTail p r
theorem joinTail_cons (p x : List UInt8) (r : List (List UInt8)) : Lib.joinTail p (x :: r) = p ++ x ++ Lib.joinTail p r := by unfold Lib.joinTail; rfl
theorem jt_pos {p : List UInt8} {i : Int} (h : i > 0) (l : List (List UInt8)) : jt p i l = Lib.joinTail p l := by
  cases l with
  | nil => rfl
  | cons x r =>
    unfold jt
    rw [decide_eq_true h, joinTail_cons]; rfl
noncomputable def b55 : Code := ((Tryz.f55.body.map loopsOf).getD []).headD .skip
def jnS (p out : List UInt8) (i : Int) (l : List AV) : List UInt8 := out ++ jt p i (sL l)
def L55 : List AV → List (Option Row) → Tr LOut
  | [.slv .str es, .str p, .str out, .int .i64 i], [] =>
    .gd (cnt es.length i es.length && decide ((jnS p out i (es.drop i.toNat)).length ≤ 1000000000000)) (.leaf (.exit 0, [.slv .str es, .str p, .str (jnS p out i (es.drop i.toNat)), .int .i64 es.length], []))
  | _, _ => .no
def l55 : Ev.Loop := ⟨{ len := 25, slots := [0, 1, 5, 6] }, ofL L55⟩
def μ55 (vs : List AV) (_ : List (Option Row)) : Nat := match vs with
  | [.slv _ es, _, _, .int _ i] => ((es.length : Int) - i).toNat
  | _ => 0
theorem loop55 : LoopOK Tryz.prog G0 [(3, l55)] b55 l55 := by
  refine loopT g0.natOK rfl (KOK.nil (by kernel_rfl)) μ55 (fun ρ vs rs k r h => ?_)
  unfold L55 at h
  split at h
  · rename_i es p out i
    obtain ⟨hc, hk⟩ := gd_some h
    simp only [Bool.and_eq_true] at hc
    obtain ⟨hc, hl⟩ := hc
    obtain ⟨_, hs, j, rfl, hj⟩ := cnt_spec hc
    rw [Int.toNat_natCast] at hk hl
    refine Eq.trans (b := bif decide ((↑j : Int) < (↑es.length : Int)) then bif decide ((↑j : Int) > (0 : Int)) then bif lenB (out.length + p.length) then bif inb (↑j : Int) es.length then bif lenB ((out ++ p).length + (sE (es.getD j AV.unk)).length) then bif decide (((↑es.length : Int) - IntKind.i64.wrap ((↑j : Int) + (1 : Int))).toNat < ((↑es.length : Int) - (↑j : Int)).toNat) then bif cnt (↑es.length : Int) (IntKind.i64.wrap ((↑j : Int) + (1 : Int))) es.length && decide ((jnS p (out ++ p ++ (sE (es.getD j AV.unk))) (IntKind.i64.wrap ((↑j : Int) + (1 : Int))) (List.drop (IntKind.i64.wrap ((↑j : Int) + (1 : Int))).toNat es)).length ≤ (1000000000000 : Nat)) then k (Ex.exit (0 : Nat)) [AV.slv Sh.str es, AV.str p, AV.str (jnS p (out ++ p ++ (sE (es.getD j AV.unk))) (IntKind.i64.wrap ((↑j : Int) + (1 : Int))) (List.drop (IntKind.i64.wrap ((↑j : Int) + (1 : Int))).toNat es)), AV.int IntKind.i64 (↑es.length : Int)] [] else none else none else none else none else none else bif inb (↑j : Int) es.length then bif lenB (out.length + (sE (es.getD j AV.unk)).length) then bif decide (((↑es.length : Int) - IntKind.i64.wrap ((↑j : Int) + (1 : Int))).toNat < ((↑es.length : Int) - (↑j : Int)).toNat) then bif cnt (↑es.length : Int) (IntKind.i64.wrap ((↑j : Int) + (1 : Int))) es.length && decide ((jnS p (out ++ (sE (es.getD j AV.unk))) (IntKind.i64.wrap ((↑j : Int) + (1 : Int))) (List.drop (IntKind.i64.wrap ((↑j : Int) + (1 : Int))).toNat es)).length ≤ (1000000000000 : Nat)) then k (Ex.exit (0 : Nat)) [AV.slv Sh.str es, AV.str p, AV.str (jnS p (out ++ (sE (es.getD j AV.unk))) (IntKind.i64.wrap ((↑j : Int) + (1 : Int))) (List.drop (IntKind.i64.wrap ((↑j : Int) + (1 : Int))).toNat es)), AV.int IntKind.i64 (↑es.length : Int)] [] else none else none else none else none else k (Ex.exit (0 : Nat)) [AV.slv Sh.str es, AV.str p, AV.str out, AV.int IntKind.i64 (↑j : Int)] []) (by kernel_rfl) ?_
    rw [← hk]
    have hl := of_decide_eq_true hl
    by_cases hlt : j < es.length
    · obtain ⟨e1, e2, e3, e4, e5⟩ := cnt_facts hlt hs
      have e6 : (((j + 1 : Nat) : Int)).toNat = j + 1 := Int.toNat_natCast _
      rw [drop_getD hlt] at hl ⊢
      by_cases h0 : j > 0
      · have hst : jnS p out j (es.getD j .unk :: es.drop (j + 1)) = jnS p (out ++ p ++ sE (es.getD j .unk)) ((j + 1 : Nat) : Int) (es.drop (j + 1)) := by
          unfold jnS
          rw [jt_pos (by omega), jt_pos (by omega)]
          simp only [sL, List.map_cons, joinTail_cons, List.append_assoc]
        rw [hst] at hl ⊢
        have hlen : (out ++ p ++ sE (es.getD j .unk)).length ≤ 1000000000000 := Nat.le_trans (List.prefix_append _ _).length_le hl
        have hl3 : (out ++ p ++ sE (es.getD j .unk)).length = (out ++ p).length + (sE (es.getD j .unk)).length := List.length_append
        have hl2 : (out ++ p).length = out.length + p.length := List.length_append
        simp only [e1, e2, e3, e4, e5, e6, cond_true, Bool.true_and]
        refine Eq.trans (cond_t (decide_eq_true (by omega))) (Eq.trans (cond_t (decide_eq_true (by omega))) (Eq.trans (cond_t (decide_eq_true (by omega))) (Eq.trans (cond_t (decide_eq_true hl)) rfl)))
      · obtain rfl : j = 0 := by omega
        have hst : jnS p out ((0 : Nat) : Int) (es.getD 0 .unk :: es.drop (0 + 1)) = jnS p (out ++ sE (es.getD 0 .unk)) ((0 + 1 : Nat) : Int) (es.drop (0 + 1)) := by
          unfold jnS
          rw [jt_pos (p := p) (i := ((0 + 1 : Nat) : Int)) (by omega)]
          simp only [List.append_assoc]
          rfl
        rw [hst] at hl ⊢
        have hlen : (out ++ sE (es.getD 0 .unk)).length ≤ 1000000000000 := Nat.le_trans (List.prefix_append _ _).length_le hl
        have hl3 : (out ++ sE (es.getD 0 .unk)).length = out.length + (sE (es.getD 0 .unk)).length := List.length_append
        simp only [e1, e2, e3, e4, e5, e6, cond_true, Bool.true_and]
        refine Eq.trans (cond_f (decide_eq_false (by omega))) (Eq.trans (cond_t (decide_eq_true (by omega))) (Eq.trans (cond_t (decide_eq_true hl)) rfl))
    · obtain rfl : j = es.length := by omega
      rw [decide_eq_false (by omega), List.drop_length]
      show _ = k _ [_, _, .str (out ++ []), _] _
      rw [List.append_nil]
      rfl
  · cases h
def F55 : List AV → Tr AV
  | [.slv .str es, .str p] => .gd (small es.length && decide ((Lib.join (sL es) p).length ≤ 1000000000000)) (.leaf (.str (Lib.join (sL es) p)))
  | _ => .no
theorem jt_zero (p : List UInt8) (l : List (List UInt8)) : jt p 0 l = Lib.join l p := by
  cases l with
  | nil => rfl
  | cons x r => rw [Lib.join_cons]; rfl
theorem ok55 : SumOK Tryz.prog 55 (ofT F55) ∧ SNat (ofT F55) := by
  refine fn1 (K := [(3, l55)]) (b := b55) (l := l55) g0 Tryz.func55 (by kernel_rfl) (by kernel_rfl) loop55 fun ρ avs k r h => ?_
  unfold F55 at h
  split at h
  · rename_i es p
    obtain ⟨hc, hk⟩ := gd_some h
    simp only [Bool.and_eq_true] at hc
    refine Eq.trans (b := bif cnt (↑es.length : Int) (0 : Int) es.length && decide ((jnS p ([] : List UInt8) (0 : Int) (List.drop (0 : Nat) es)).length ≤ (1000000000000 : Nat)) then k (AV.str (jnS p ([] : List UInt8) (0 : Int) (List.drop (0 : Nat) es))) else none) (by kernel_rfl) ?_
    rw [← hk]
    have e : jnS p [] 0 (es.drop 0) = Lib.join (sL es) p := by unfold jnS; rw [jt_zero, List.nil_append, List.drop_zero]
    rw [e, cnt_zero hc.1, hc.2]
    rfl
  · cases h
noncomputable def b59 : Code := ((Tryz.f59.body.map loopsOf).getD []).headD .skip
def uhI (n c : Int) : Int := bif inR c 48 57 then wu (wu (n * 16) + wu (IntKind.i64.wrap (c - 48))) else wu (wu (n * 16) + wu (IntKind.i64.wrap (IntKind.i64.wrap (c - 97) + 10)))
def uhG : List UInt8 → Int → Int → Bool × Int × Int
  | [], n, i => (true, n, i)
  | b :: r, n, i => bif hxI (b.toNat : Nat) then uhG r (uhI n (b.toNat : Nat)) (i + 1) else (false, n, i)
def uhB (s : List UInt8) (n i : Int) : Bool := (uhG (s.drop i.toNat) n i).1
def uhN (s : List UInt8) (n i : Int) : Int := (uhG (s.drop i.toNat) n i).2.1
def uhJ (s : List UInt8) (n i : Int) : Int := (uhG (s.drop i.toNat) n i).2.2
def L59 : List AV → List (Option Row) → Tr LOut
  | [.str s, .int .u64 z, .bool b, .int .u64 n, .int .i64 i], [] =>
    .gd (cnt s.length i s.length) (.br (uhB s n i)
      (.leaf (.exit 0, [.str s, .int .u64 z, .bool b, .int .u64 (uhN s n i), .int .i64 (uhJ s n i)], []))
      (.leaf (.ret, [.str s, .int .u64 0, .bool false, .int .u64 (uhN s n i), .int .i64 (uhJ s n i)], [])))
  | _, _ => .no
def l59 : Ev.Loop := ⟨{ len := 38, slots := [0, 2, 3, 4, 5] }, ofL L59⟩
def μ59 (vs : List AV) (_ : List (Option Row)) : Nat := match vs with
  | [.str s, _, _, _, .int _ i] => ((s.length : Int) - i).toNat
  | _ => 0
theorem loop59 : LoopOK Tryz.prog G19 [(3, l59)] b59 l59 := by
  refine loopT g19.natOK rfl (KOK.nil (by kernel_rfl)) μ59 (fun ρ vs rs k r h => ?_)
  unfold L59 at h
  split at h
  · rename_i s z b n i
    obtain ⟨hc, hk⟩ := gd_some h
    obtain ⟨_, hs, j, rfl, hj⟩ := cnt_spec hc
    refine Eq.trans (b := bif decide ((↑j : Int) < (↑s.length : Int)) then bif inb (↑j : Int) s.length then bif inR (IntKind.i64.wrap (↑(s.getD j (0 : UInt8)).toNat : Int)) (48 : Int) (57 : Int) then bif decide (((↑s.length : Int) - IntKind.i64.wrap ((↑j : Int) + (1 : Int))).toNat < ((↑s.length : Int) - (↑j : Int)).toNat) then bif cnt (↑s.length : Int) (IntKind.i64.wrap ((↑j : Int) + (1 : Int))) s.length then bif uhB s (IntKind.u64.wrap (IntKind.u64.wrap (n * (16 : Int)) + IntKind.u64.wrap (IntKind.i64.wrap (IntKind.i64.wrap (↑(s.getD j (0 : UInt8)).toNat : Int) - (48 : Int))))) (IntKind.i64.wrap ((↑j : Int) + (1 : Int))) then k (Ex.exit (0 : Nat)) [AV.str s, AV.int IntKind.u64 z, AV.bool b, AV.int IntKind.u64 (uhN s (IntKind.u64.wrap (IntKind.u64.wrap (n * (16 : Int)) + IntKind.u64.wrap (IntKind.i64.wrap (IntKind.i64.wrap (↑(s.getD j (0 : UInt8)).toNat : Int) - (48 : Int))))) (IntKind.i64.wrap ((↑j : Int) + (1 : Int)))), AV.int IntKind.i64 (uhJ s (IntKind.u64.wrap (IntKind.u64.wrap (n * (16 : Int)) + IntKind.u64.wrap (IntKind.i64.wrap (IntKind.i64.wrap (↑(s.getD j (0 : UInt8)).toNat : Int) - (48 : Int))))) (IntKind.i64.wrap ((↑j : Int) + (1 : Int))))] [] else k Ex.ret [AV.str s, AV.int IntKind.u64 (0 : Int), AV.bool false, AV.int IntKind.u64 (uhN s (IntKind.u64.wrap (IntKind.u64.wrap (n * (16 : Int)) + IntKind.u64.wrap (IntKind.i64.wrap (IntKind.i64.wrap (↑(s.getD j (0 : UInt8)).toNat : Int) - (48 : Int))))) (IntKind.i64.wrap ((↑j : Int) + (1 : Int)))), AV.int IntKind.i64 (uhJ s (IntKind.u64.wrap (IntKind.u64.wrap (n * (16 : Int)) + IntKind.u64.wrap (IntKind.i64.wrap (IntKind.i64.wrap (↑(s.getD j (0 : UInt8)).toNat : Int) - (48 : Int))))) (IntKind.i64.wrap ((↑j : Int) + (1 : Int))))] [] else none else none else bif inR (IntKind.i64.wrap (↑(s.getD j (0 : UInt8)).toNat : Int)) (97 : Int) (102 : Int) then bif decide (((↑s.length : Int) - IntKind.i64.wrap ((↑j : Int) + (1 : Int))).toNat < ((↑s.length : Int) - (↑j : Int)).toNat) then bif cnt (↑s.length : Int) (IntKind.i64.wrap ((↑j : Int) + (1 : Int))) s.length then bif uhB s (IntKind.u64.wrap (IntKind.u64.wrap (n * (16 : Int)) + IntKind.u64.wrap (IntKind.i64.wrap (IntKind.i64.wrap (IntKind.i64.wrap (↑(s.getD j (0 : UInt8)).toNat : Int) - (97 : Int)) + (10 : Int))))) (IntKind.i64.wrap ((↑j : Int) + (1 : Int))) then k (Ex.exit (0 : Nat)) [AV.str s, AV.int IntKind.u64 z, AV.bool b, AV.int IntKind.u64 (uhN s (IntKind.u64.wrap (IntKind.u64.wrap (n * (16 : Int)) + IntKind.u64.wrap (IntKind.i64.wrap (IntKind.i64.wrap (IntKind.i64.wrap (↑(s.getD j (0 : UInt8)).toNat : Int) - (97 : Int)) + (10 : Int))))) (IntKind.i64.wrap ((↑j : Int) + (1 : Int)))), AV.int IntKind.i64 (uhJ s (IntKind.u64.wrap (IntKind.u64.wrap (n * (16 : Int)) + IntKind.u64.wrap (IntKind.i64.wrap (IntKind.i64.wrap (IntKind.i64.wrap (↑(s.getD j (0 : UInt8)).toNat : Int) - (97 : Int)) + (10 : Int))))) (IntKind.i64.wrap ((↑j : Int) + (1 : Int))))] [] else k Ex.ret [AV.str s, AV.int IntKind.u64 (0 : Int), AV.bool false, AV.int IntKind.u64 (uhN s (IntKind.u64.wrap (IntKind.u64.wrap (n * (16 : Int)) + IntKind.u64.wrap (IntKind.i64.wrap (IntKind.i64.wrap (IntKind.i64.wrap (↑(s.getD j (0 : UInt8)).toNat : Int) - (97 : Int)) + (10 : Int))))) (IntKind.i64.wrap ((↑j : Int) + (1 : Int)))), AV.int IntKind.i64 (uhJ s (IntKind.u64.wrap (IntKind.u64.wrap (n * (16 : Int)) + IntKind.u64.wrap (IntKind.i64.wrap (IntKind.i64.wrap (IntKind.i64.wrap (↑(s.getD j (0 : UInt8)).toNat : Int) - (97 : Int)) + (10 : Int))))) (IntKind.i64.wrap ((↑j : Int) + (1 : Int))))] [] else none else none else k Ex.ret [AV.str s, AV.int IntKind.u64 (0 : Int), AV.bool false, AV.int IntKind.u64 n, AV.int IntKind.i64 (↑j : Int)] [] else none else k (Ex.exit (0 : Nat)) [AV.str s, AV.int IntKind.u64 z, AV.bool b, AV.int IntKind.u64 n, AV.int IntKind.i64 (↑j : Int)] []) (by kernel_rfl) ?_
    rw [← hk]
    by_cases hlt : j < s.length
    · obtain ⟨e1, e2, e3, e4, e5⟩ := cnt_facts hlt hs
      have hx : (((s.getD j (0 : UInt8)).toNat : Nat) : Int) = atI s j := rfl
      obtain ⟨b0, b1⟩ := atI_r s j
      have hw : IntKind.i64.wrap (atI s j) = atI s j := wrap_mid _ (by omega) (by omega)
      have hG : uhG (s.drop j) n j = bif hxI (atI s j) then uhG (s.drop (j + 1)) (uhI n (atI s j)) ((j : Int) + 1) else (false, n, (j : Int)) := by
        rw [drop_str hlt]; rfl
      have hj1 : ((j : Int) + 1) = ((j + 1 : Nat) : Int) := by omega
      have hB : uhB s n j = bif hxI (atI s j) then uhB s (uhI n (atI s j)) ((j + 1 : Nat) : Int) else false := by
        unfold uhB; simp only [Int.toNat_natCast]; rw [hG, hj1]; cases hxI (atI s j) <;> rfl
      have hN : uhN s n j = bif hxI (atI s j) then uhN s (uhI n (atI s j)) ((j + 1 : Nat) : Int) else n := by
        unfold uhN; simp only [Int.toNat_natCast]; rw [hG, hj1]; cases hxI (atI s j) <;> rfl
      have hJ : uhJ s n j = bif hxI (atI s j) then uhJ s (uhI n (atI s j)) ((j + 1 : Nat) : Int) else (j : Int) := by
        unfold uhJ; simp only [Int.toNat_natCast]; rw [hG, hj1]; cases hxI (atI s j) <;> rfl
      simp only [e1, e2, e3, e4, e5, cond_true, hx, hw]
      rw [hB, hN, hJ]
      unfold hxI uhI
      cases h1 : inR (atI s j) 48 57
      · cases h2 : inR (atI s j) 97 102
        · rfl
        · rfl
      · rfl
    · obtain rfl : j = s.length := by omega
      have hG : ∀ n, uhG (s.drop ((s.length : Nat) : Int).toNat) n (s.length : Nat) = (true, n, ((s.length : Nat) : Int)) := fun n => by
        rw [Int.toNat_natCast, List.drop_length]; rfl
      unfold uhB uhN uhJ
      rw [decide_eq_false (by omega), hG]
      rfl
  · cases h
def unX (s : List UInt8) : Int := bif uhB s 0 0 then uhN s 0 0 else 0
def unB (s : List UInt8) : Bool := uhB s 0 0 && ((s.length : Int) == 16)
def F59 : List AV → Tr AV
  | [.str s] => .gd (small s.length) (.leaf (.tup [.int .u64 (unX s), .bool (hexB s)]))
  | _ => .no
theorem uhG_all : ∀ (s : List UInt8) (n i : Int), (uhG s n i).1 = s.all fun b => hxI (b.toNat : Nat)
  | [], _, _ => rfl
  | b :: r, n, i => by
    unfold uhG
    rw [List.all_cons]
    cases hxI (b.toNat : Nat)
    · rfl
    · exact uhG_all r _ _
theorem allN_all (p : Int → Bool) (s : List UInt8) : allN p s = s.all fun b => p (b.toNat : Nat) := by
  refine Bool.eq_iff_iff.2 ?_
  rw [allN_iff, List.all_eq_true]
  constructor
  · intro h b hb
    obtain ⟨i, hi, rfl⟩ := List.getElem_of_mem hb
    have := h i hi
    rwa [atI_get hi] at this
  · intro h i hi
    rw [atI_get hi]
    exact h _ (List.getElem_mem hi)
theorem unB_hex (s : List UInt8) : (bif uhB s 0 0 then ((s.length : Int) == 16) else false) = hexB s := by
  unfold uhB hexB
  rw [show s.drop (0 : Int).toNat = s from rfl, uhG_all, allN_all]
  cases s.all fun b => hxI (b.toNat : Nat) <;> cases ((s.length : Int) == 16) <;> rfl
theorem ok59 : SumOK Tryz.prog 59 (ofT F59) ∧ SNat (ofT F59) := by
  refine fn1 (K := [(3, l59)]) (b := b59) (l := l59) g19 Tryz.func59 (by kernel_rfl) (by kernel_rfl) loop59 fun ρ avs k r h => ?_
  unfold F59 at h
  split at h
  · rename_i s
    obtain ⟨hc, hk⟩ := gd_some h
    refine Eq.trans (b := bif cnt (↑s.length : Int) (0 : Int) s.length then bif uhB s (0 : Int) (0 : Int) then k (AV.tup [AV.int IntKind.u64 (uhN s (0 : Int) (0 : Int)), AV.bool ((↑s.length : Int) == (16 : Int))]) else k (AV.tup [AV.int IntKind.u64 (0 : Int), AV.bool false]) else none) (by kernel_rfl) ?_
    rw [← hk, cnt_zero hc, ← unB_hex]
    unfold unX
    cases uhB s 0 0 <;> rfl
  · cases h
def goG (p : Nat → List UInt8) : Nat → List AV → List AV → Bool × Int × List AV
  | i, pre, [] => (true, i, pre)
  | i, pre, e :: r => bif Lib.hasPrefix (sE e) (p i) then goG p (i + 1) (pre ++ [.str (Lib.trimPrefix (sE e) (p i))]) r else (false, i, pre ++ e :: r)
def pfx (b : List UInt8) (i : Nat) : List UInt8 := List.take (i + 1 - i) (List.drop i b) ++ [61]
def goB (p : Nat → List UInt8) (i : Int) (es : List AV) : Bool := (goG p i.toNat (es.take i.toNat) (es.drop i.toNat)).1
def goI (p : Nat → List UInt8) (i : Int) (es : List AV) : Int := (goG p i.toNat (es.take i.toNat) (es.drop i.toNat)).2.1
def goL (p : Nat → List UInt8) (i : Int) (es : List AV) : List AV := (goG p i.toNat (es.take i.toNat) (es.drop i.toNat)).2.2
theorem go_step (p : Nat → List UInt8) {es : List AV} {j : Nat} (h : j < es.length) : goG p j (es.take j) (es.drop j) = bif Lib.hasPrefix (sE (es.getD j .unk)) (p j) then goG p (j + 1) ((es.set j (.str (Lib.trimPrefix (sE (es.getD j .unk)) (p j)))).take (j + 1)) ((es.set j (.str (Lib.trimPrefix (sE (es.getD j .unk)) (p j)))).drop (j + 1)) else (false, ((j : Nat) : Int), es) := by
  rw [drop_getD h, goG, List.take_succ_eq_append_getElem (by rw [List.length_set]; exact h), List.getElem_set_self, List.take_set_of_le (Nat.le_refl _), List.drop_set_of_lt (Nat.lt_succ_self _), ← drop_getD h, List.take_append_drop]
theorem go_end (p : Nat → List UInt8) (es : List AV) : goG p es.length (es.take es.length) (es.drop es.length) = (true, ((es.length : Nat) : Int), es) := by
  rw [List.drop_length, List.take_length]; rfl
theorem goB_yes (p : Nat → List UInt8) {es : List AV} {j : Nat} (h : j < es.length) (hp : Lib.hasPrefix (sE (es.getD j .unk)) (p j) = true) : goB p j es = goB p ((j + 1 : Nat) : Int) (es.set j (.str (Lib.trimPrefix (sE (es.getD j .unk)) (p j)))) := by
  unfold goB; simp only [Int.toNat_natCast]; rw [go_step p h, hp]; rfl
theorem goI_yes (p : Nat → List UInt8) {es : List AV} {j : Nat} (h : j < es.length) (hp : Lib.hasPrefix (sE (es.getD j .unk)) (p j) = true) : goI p j es = goI p ((j + 1 : Nat) : Int) (es.set j (.str (Lib.trimPrefix (sE (es.getD j .unk)) (p j)))) := by
  unfold goI; simp only [Int.toNat_natCast]; rw [go_step p h, hp]; rfl
theorem goL_yes (p : Nat → List UInt8) {es : List AV} {j : Nat} (h : j < es.length) (hp : Lib.hasPrefix (sE (es.getD j .unk)) (p j) = true) : goL p j es = goL p ((j + 1 : Nat) : Int) (es.set j (.str (Lib.trimPrefix (sE (es.getD j .unk)) (p j)))) := by
  unfold goL; simp only [Int.toNat_natCast]; rw [go_step p h, hp]; rfl
theorem go_no (p : Nat → List UInt8) {es : List AV} {j : Nat} (h : j < es.length) (hp : Lib.hasPrefix (sE (es.getD j .unk)) (p j) = false) : goB p j es = false ∧ goI p j es = j ∧ goL p j es = es := by
  unfold goB goI goL; simp only [Int.toNat_natCast]; rw [go_step p h, hp]; exact ⟨rfl, rfl, rfl⟩
theorem go_fin (p : Nat → List UInt8) (es : List AV) : goB p (es.length : Nat) es = true ∧ goI p (es.length : Nat) es = es.length ∧ goL p (es.length : Nat) es = es := by
  unfold goB goI goL; simp only [Int.toNat_natCast]; rw [go_end]; exact ⟨rfl, rfl, rfl⟩
noncomputable def b68 : Code := ((Tryz.f68.body.map loopsOf).getD []).headD .skip
noncomputable def G68 : Env := { pure := [(86, ofT F86)], opens := [(84, ofX F84)] }
theorem g68 : GOK Tryz.prog G68 := GOK.alsoX (GOK.also g0 ok86) ok84
def L68 : List AV → List (Option Row) → Tr LOut
  | [.str b, .slz .str, .bool false, .own 900, .int .i64 n, .int .i64 i], [some (.arr false .str e es none)] =>
    .gd (cnt n i es.length && decide (es.length = b.length ∧ b.length ≤ 100)) (.br (goB (pfx b) i es)
      (.leaf (.exit 0, [.str b, .slz .str, .bool false, .own 900, .int .i64 n, .int .i64 (goI (pfx b) i es)], [some (.arr false .str e (goL (pfx b) i es) none)]))
      (.leaf (.ret, [.str b, .slz .str, .bool false, .own 900, .int .i64 n, .int .i64 (goI (pfx b) i es)], [some (.arr false .str e (goL (pfx b) i es) none)])))
  | _, _ => .no
def l68 : Ev.Loop := ⟨{ len := 44, slots := [1, 4, 5, 6, 18, 19], rows := [900], homes := [(6, 900, 9)] }, ofL L68⟩
def μ68 (vs : List AV) (_ : List (Option Row)) : Nat := match vs with
  | [_, _, _, _, .int _ n, .int _ i] => (n - i).toNat
  | _ => 0
theorem loop68 : LoopOK Tryz.prog G68 [(5, l68)] b68 l68 := by
  refine loopT g68.natOK rfl (KOK.nil (by kernel_rfl)) μ68 (fun ρ vs rs k r h => ?_)
  unfold L68 at h
  split at h
  · rename_i b n i e es
    obtain ⟨hc, hk⟩ := gd_some h
    simp only [Bool.and_eq_true] at hc
    obtain ⟨hc, hl⟩ := hc
    obtain ⟨rfl, hs, j, rfl, hj⟩ := cnt_spec hc
    obtain ⟨hl, hb⟩ := of_decide_eq_true hl
    refine Eq.trans (b := bif decide ((↑j : Int) < (↑es.length : Int)) then bif inb (↑j : Int) es.length then bif decide (j < es.length) then bif slb (↑j : Int) (IntKind.i64.wrap ((↑j : Int) + (1 : Int))) b.length then bif lenB ((List.take ((IntKind.i64.wrap ((↑j : Int) + (1 : Int))).toNat - j) (List.drop j b)).length + ([61] : List UInt8).length) then bif !Lib.hasPrefix (sE (es.getD j AV.unk)) (List.take ((IntKind.i64.wrap ((↑j : Int) + (1 : Int))).toNat - j) (List.drop j b) ++ ([61] : List UInt8)) then k Ex.ret [AV.str b, AV.slz Sh.str, AV.bool false, AV.own (900 : Nat), AV.int IntKind.i64 (↑es.length : Int), AV.int IntKind.i64 (↑j : Int)] [some (Row.arr false Sh.str e es none)] else bif inb (↑j : Int) es.length then bif decide (j < es.length) then bif decide (((↑es.length : Int) - IntKind.i64.wrap ((↑j : Int) + (1 : Int))).toNat < ((↑es.length : Int) - (↑j : Int)).toNat) then bif cnt (↑es.length : Int) (IntKind.i64.wrap ((↑j : Int) + (1 : Int))) (es.set j (mkAV Sh.str [AV.str (Lib.trimPrefix (sE (es.getD j AV.unk)) (List.take ((IntKind.i64.wrap ((↑j : Int) + (1 : Int))).toNat - j) (List.drop j b) ++ ([61] : List UInt8)))])).length && decide ((es.set j (mkAV Sh.str [AV.str (Lib.trimPrefix (sE (es.getD j AV.unk)) (List.take ((IntKind.i64.wrap ((↑j : Int) + (1 : Int))).toNat - j) (List.drop j b) ++ ([61] : List UInt8)))])).length = b.length ∧ b.length ≤ (100 : Nat)) then bif goB (pfx b) (IntKind.i64.wrap ((↑j : Int) + (1 : Int))) (es.set j (mkAV Sh.str [AV.str (Lib.trimPrefix (sE (es.getD j AV.unk)) (List.take ((IntKind.i64.wrap ((↑j : Int) + (1 : Int))).toNat - j) (List.drop j b) ++ ([61] : List UInt8)))])) then k (Ex.exit (0 : Nat)) [AV.str b, AV.slz Sh.str, AV.bool false, AV.own (900 : Nat), AV.int IntKind.i64 (↑es.length : Int), AV.int IntKind.i64 (goI (pfx b) (IntKind.i64.wrap ((↑j : Int) + (1 : Int))) (es.set j (mkAV Sh.str [AV.str (Lib.trimPrefix (sE (es.getD j AV.unk)) (List.take ((IntKind.i64.wrap ((↑j : Int) + (1 : Int))).toNat - j) (List.drop j b) ++ ([61] : List UInt8)))])))] [some (Row.arr false Sh.str e (goL (pfx b) (IntKind.i64.wrap ((↑j : Int) + (1 : Int))) (es.set j (mkAV Sh.str [AV.str (Lib.trimPrefix (sE (es.getD j AV.unk)) (List.take ((IntKind.i64.wrap ((↑j : Int) + (1 : Int))).toNat - j) (List.drop j b) ++ ([61] : List UInt8)))]))) none)] else k Ex.ret [AV.str b, AV.slz Sh.str, AV.bool false, AV.own (900 : Nat), AV.int IntKind.i64 (↑es.length : Int), AV.int IntKind.i64 (goI (pfx b) (IntKind.i64.wrap ((↑j : Int) + (1 : Int))) (es.set j (mkAV Sh.str [AV.str (Lib.trimPrefix (sE (es.getD j AV.unk)) (List.take ((IntKind.i64.wrap ((↑j : Int) + (1 : Int))).toNat - j) (List.drop j b) ++ ([61] : List UInt8)))])))] [some (Row.arr false Sh.str e (goL (pfx b) (IntKind.i64.wrap ((↑j : Int) + (1 : Int))) (es.set j (mkAV Sh.str [AV.str (Lib.trimPrefix (sE (es.getD j AV.unk)) (List.take ((IntKind.i64.wrap ((↑j : Int) + (1 : Int))).toNat - j) (List.drop j b) ++ ([61] : List UInt8)))]))) none)] else none else none else none else none else none else none else none else none else k (Ex.exit (0 : Nat)) [AV.str b, AV.slz Sh.str, AV.bool false, AV.own (900 : Nat), AV.int IntKind.i64 (↑es.length : Int), AV.int IntKind.i64 (↑j : Int)] [some (Row.arr false Sh.str e es none)]) (by kernel_rfl) ?_
    rw [← hk]
    by_cases hlt : j < es.length
    · obtain ⟨e1, e2, e3, e4, e5⟩ := cnt_facts hlt hs
      have hpf : List.take (j + 1 - j) (List.drop j b) ++ [61] = pfx b j := rfl
      have hmk : ∀ x, mkAV Sh.str [AV.str x] = AV.str x := fun _ => rfl
      have htl : (List.take (j + 1 - j) (List.drop j b)).length ≤ 100 := by rw [List.length_take, List.length_drop]; omega
      have s1 : slb (j : Int) ((j + 1 : Nat) : Int) b.length = true := slb_true (by omega) (by omega) (by omega)
      have d1 : lenB ((List.take (j + 1 - j) (List.drop j b)).length + ([61] : List UInt8).length) = true := decide_eq_true (by show _ + 1 ≤ _; omega)
      have g1 : decide (es.length = b.length ∧ b.length ≤ 100) = true := decide_eq_true ⟨hl, hb⟩
      simp only [e1, e2, e3, e4, e5, Int.toNat_natCast, hpf, hmk, s1, d1, g1, List.length_set, cond_true, Bool.and_true, decide_eq_true hlt]
      cases hp : Lib.hasPrefix (sE (es.getD j .unk)) (pfx b j)
      · obtain ⟨q1, q2, q3⟩ := go_no _ hlt hp
        rw [q1, q2, q3]
        rfl
      · rw [goB_yes _ hlt hp, goI_yes _ hlt hp, goL_yes _ hlt hp]
        rfl
    · obtain rfl : j = es.length := by omega
      obtain ⟨q1, q2, q3⟩ := go_fin (pfx b) es
      rw [decide_eq_false (by omega), q1, q2, q3]
      rfl
  · cases h
def vsB (p : Nat → List UInt8) (m : Nat) (s : List UInt8) : Bool := ((((Lib.split s [59, 32]).map AV.str).length : Int) == (m : Int)) && goB p 0 ((Lib.split s [59, 32]).map AV.str)
def vsL (p : Nat → List UInt8) (m : Nat) (s : List UInt8) : List AV := bif vsB p m s then goL p 0 ((Lib.split s [59, 32]).map AV.str) else []
def F68 : List AV → Tr AV
  | [.str s, .str b] => .gd (decide (s.length ≤ 1000000 ∧ b.length ≤ 100)) (.leaf (.tup [.slv .str (vsL (pfx b) b.length s), .bool (vsB (pfx b) b.length s)]))
  | _ => .no
theorem ok68 : SumOK Tryz.prog 68 (ofT F68) ∧ SNat (ofT F68) := by
  refine fn1 (K := [(5, l68)]) (b := b68) (l := l68) g68 Tryz.func68 (by kernel_rfl) (by kernel_rfl) loop68 fun ρ avs k r h => ?_
  unfold F68 at h
  split at h
  · rename_i s b
    obtain ⟨hc, hk⟩ := gd_some h
    refine Eq.trans (b := bif decide (s.length < (4294967281 : Nat)) && decide ((1 : Nat) ≤ ([59, 32] : List UInt8).length) then bif (↑(List.map AV.str (Lib.split s ([59, 32] : List UInt8))).length : Int) != (↑b.length : Int) then k (AV.tup [AV.slv Sh.str [], AV.bool false]) else bif cnt (↑(List.map AV.str (Lib.split s ([59, 32] : List UInt8))).length : Int) (0 : Int) (List.map AV.str (Lib.split s ([59, 32] : List UInt8))).length && decide ((List.map AV.str (Lib.split s ([59, 32] : List UInt8))).length = b.length ∧ b.length ≤ (100 : Nat)) then bif goB (pfx b) (0 : Int) (List.map AV.str (Lib.split s ([59, 32] : List UInt8))) then k (AV.tup [AV.slv Sh.str (goL (pfx b) (0 : Int) (List.map AV.str (Lib.split s ([59, 32] : List UInt8)))), AV.bool true]) else k (AV.tup [AV.slv Sh.str [], AV.bool false]) else none else none) (by kernel_rfl) ?_
    rw [← hk]
    obtain ⟨h1, h2⟩ := of_decide_eq_true hc
    have hle := split_le s [59, 32] (by decide)
    have hm : ((Lib.split s [59, 32]).map AV.str).length = (Lib.split s [59, 32]).length := List.length_map _
    unfold vsL vsB
    rw [decide_eq_true (show s.length < 4294967281 by omega)]
    refine Eq.trans (cond_t rfl) ?_
    cases he : ((((Lib.split s [59, 32]).map AV.str).length : Int) == (b.length : Int))
    · simp only [bne, he, Bool.not_false, cond_true, Bool.false_and, cond_false]
      rfl
    · have he' : ((Lib.split s [59, 32]).map AV.str).length = b.length := Int.ofNat.inj (by simpa using he)
      simp only [bne, he, Bool.not_true, cond_false, Bool.true_and]
      rw [cnt_zero (decide_eq_true (show ((Lib.split s [59, 32]).map AV.str).length ≤ 9223372036854775807 by omega)), decide_eq_true (And.intro he' h2)]
      cases goB (pfx b) 0 ((Lib.split s [59, 32]).map AV.str) <;> rfl
  · cases h
theorem goG_congr {p q : Nat → List UInt8} : ∀ (r : List AV) (i : Nat) (pre : List AV), (∀ j, i ≤ j → j < i + r.length → p j = q j) → goG p i pre r = goG q i pre r
  | [], _, _, _ => rfl
  | e :: r, i, pre, h => by
    unfold goG
    rw [h i (Nat.le_refl _) (by rw [List.length_cons]; omega), goG_congr r (i + 1) _ fun j hj hj' => h j (by omega) (by rw [List.length_cons]; omega)]
theorem vs_congr {p q : Nat → List UInt8} {m : Nat} (h : ∀ j, j < m → p j = q j) (s : List UInt8) : vsB p m s = vsB q m s ∧ vsL p m s = vsL q m s := by
  have key : vsB p m s = vsB q m s ∧ ((((Lib.split s [59, 32]).map AV.str).length : Int) == (m : Int)) = true → goL p 0 ((Lib.split s [59, 32]).map AV.str) = goL q 0 ((Lib.split s [59, 32]).map AV.str) := by
    rintro ⟨_, he⟩
    have he' : ((Lib.split s [59, 32]).map AV.str).length = m := Int.ofNat.inj (by simpa using he)
    unfold goL
    rw [goG_congr _ _ _ fun j _ hj => h j (by rw [show List.drop (0 : Int).toNat ((Lib.split s [59, 32]).map AV.str) = (Lib.split s [59, 32]).map AV.str from rfl] at hj; simp only [Int.toNat_zero] at hj; omega)]
  have hB : vsB p m s = vsB q m s := by
    unfold vsB
    cases he : ((((Lib.split s [59, 32]).map AV.str).length : Int) == (m : Int))
    · rfl
    · have he' : ((Lib.split s [59, 32]).map AV.str).length = m := Int.ofNat.inj (by simpa using he)
      unfold goB
      rw [goG_congr _ _ _ fun j _ hj => h j (by rw [show List.drop (0 : Int).toNat ((Lib.split s [59, 32]).map AV.str) = (Lib.split s [59, 32]).map AV.str from rfl] at hj; simp only [Int.toNat_zero] at hj; omega)]
  refine ⟨hB, ?_⟩
  unfold vsL
  rw [hB]
  cases hq : vsB q m s
  · rfl
  · unfold vsB at hq
    simp only [Bool.and_eq_true] at hq
    exact key ⟨hB, hq.1⟩
noncomputable def b58 : Code := ((Tryz.f58.body.map loopsOf).getD []).headD .skip
def kfx (ks : List AV) (i : Nat) : List UInt8 := sE (ks.getD i .unk)
def L58 : List AV → List (Option Row) → Tr LOut
  | [.slv .str ks, .slz .str, .bool false, .own 900, .int .i64 i], [some (.arr false .str e es none)] =>
    .gd (cnt es.length i es.length && (ks.all (fun k => decide ((sE k).length = 2)) && decide (es.length = ks.length ∧ ks.length ≤ 100))) (.br (goB (kfx ks) i es)
      (.leaf (.exit 0, [.slv .str ks, .slz .str, .bool false, .own 900, .int .i64 (goI (kfx ks) i es)], [some (.arr false .str e (goL (kfx ks) i es) none)]))
      (.leaf (.ret, [.slv .str ks, .slz .str, .bool false, .own 900, .int .i64 (goI (kfx ks) i es)], [some (.arr false .str e (goL (kfx ks) i es) none)])))
  | _, _ => .no
def l58 : Ev.Loop := ⟨{ len := 48, slots := [1, 4, 5, 6, 7], rows := [900], homes := [(6, 900, 9)] }, ofL L58⟩
def μ58 (vs : List AV) (rs : List (Option Row)) : Nat := match vs, rs with
  | [_, _, _, _, .int _ i], [some (.arr _ _ _ es _)] => ((es.length : Int) - i).toNat
  | _, _ => 0
noncomputable def GPi : Env := { pure := [], opens := [(60, ofX F60)] }
theorem gPi : GOK Tryz.prog GPi := GOK.alsoX g0 ok60
theorem loop58 : LoopOK Tryz.prog GPi [(5, l58)] b58 l58 := by
  refine loopT gPi.natOK rfl (KOK.nil (by kernel_rfl)) μ58 (fun ρ vs rs k r h => ?_)
  unfold L58 at h
  split at h
  · rename_i ks i e es
    obtain ⟨hc, hk⟩ := gd_some h
    simp only [Bool.and_eq_true] at hc
    obtain ⟨hc, hall, hl⟩ := hc
    refine Eq.trans (b := bif decide (i < (↑es.length : Int)) then bif inb i es.length then bif decide (i.toNat < es.length) then bif decide ((↑(sE (es.getD i.toNat AV.unk)).length : Int) < (2 : Int)) then k Ex.ret [AV.slv Sh.str ks, AV.slz Sh.str, AV.bool false, AV.own (900 : Nat), AV.int IntKind.i64 i] [some (Row.arr false Sh.str e es none)] else bif inb i es.length then bif decide (i.toNat < es.length) then bif slb (0 : Int) (2 : Int) (sE (es.getD i.toNat AV.unk)).length then bif inb i ks.length then bif !List.take (Int.toNat (2 : Int) - Int.toNat (0 : Int)) (List.drop (0 : Nat) (sE (es.getD i.toNat AV.unk))) == (sE (ks.getD i.toNat AV.unk)) then k Ex.ret [AV.slv Sh.str ks, AV.slz Sh.str, AV.bool false, AV.own (900 : Nat), AV.int IntKind.i64 i] [some (Row.arr false Sh.str e es none)] else bif inb i es.length then bif decide (i.toNat < es.length) then bif slb (2 : Int) (↑(sE (es.getD i.toNat AV.unk)).length : Int) (sE (es.getD i.toNat AV.unk)).length then bif inb i es.length then bif decide (i.toNat < es.length) then bif decide (((↑(es.set i.toNat (mkAV Sh.str [AV.str (List.take ((↑(sE (es.getD i.toNat AV.unk)).length : Int).toNat - Int.toNat (2 : Int)) (List.drop (Int.toNat (2 : Int)) (sE (es.getD i.toNat AV.unk))))])).length : Int) - IntKind.i64.wrap (i + (1 : Int))).toNat < ((↑es.length : Int) - i).toNat) then bif cnt (↑(es.set i.toNat (mkAV Sh.str [AV.str (List.take ((↑(sE (es.getD i.toNat AV.unk)).length : Int).toNat - Int.toNat (2 : Int)) (List.drop (Int.toNat (2 : Int)) (sE (es.getD i.toNat AV.unk))))])).length : Int) (IntKind.i64.wrap (i + (1 : Int))) (es.set i.toNat (mkAV Sh.str [AV.str (List.take ((↑(sE (es.getD i.toNat AV.unk)).length : Int).toNat - Int.toNat (2 : Int)) (List.drop (Int.toNat (2 : Int)) (sE (es.getD i.toNat AV.unk))))])).length && ((ks.all fun k => decide ((sE k).length = (2 : Nat))) && decide ((es.set i.toNat (mkAV Sh.str [AV.str (List.take ((↑(sE (es.getD i.toNat AV.unk)).length : Int).toNat - Int.toNat (2 : Int)) (List.drop (Int.toNat (2 : Int)) (sE (es.getD i.toNat AV.unk))))])).length = ks.length ∧ ks.length ≤ (100 : Nat))) then bif goB (kfx ks) (IntKind.i64.wrap (i + (1 : Int))) (es.set i.toNat (mkAV Sh.str [AV.str (List.take ((↑(sE (es.getD i.toNat AV.unk)).length : Int).toNat - Int.toNat (2 : Int)) (List.drop (Int.toNat (2 : Int)) (sE (es.getD i.toNat AV.unk))))])) then k (Ex.exit (0 : Nat)) [AV.slv Sh.str ks, AV.slz Sh.str, AV.bool false, AV.own (900 : Nat), AV.int IntKind.i64 (goI (kfx ks) (IntKind.i64.wrap (i + (1 : Int))) (es.set i.toNat (mkAV Sh.str [AV.str (List.take ((↑(sE (es.getD i.toNat AV.unk)).length : Int).toNat - Int.toNat (2 : Int)) (List.drop (Int.toNat (2 : Int)) (sE (es.getD i.toNat AV.unk))))])))] [some (Row.arr false Sh.str e (goL (kfx ks) (IntKind.i64.wrap (i + (1 : Int))) (es.set i.toNat (mkAV Sh.str [AV.str (List.take ((↑(sE (es.getD i.toNat AV.unk)).length : Int).toNat - Int.toNat (2 : Int)) (List.drop (Int.toNat (2 : Int)) (sE (es.getD i.toNat AV.unk))))]))) none)] else k Ex.ret [AV.slv Sh.str ks, AV.slz Sh.str, AV.bool false, AV.own (900 : Nat), AV.int IntKind.i64 (goI (kfx ks) (IntKind.i64.wrap (i + (1 : Int))) (es.set i.toNat (mkAV Sh.str [AV.str (List.take ((↑(sE (es.getD i.toNat AV.unk)).length : Int).toNat - Int.toNat (2 : Int)) (List.drop (Int.toNat (2 : Int)) (sE (es.getD i.toNat AV.unk))))])))] [some (Row.arr false Sh.str e (goL (kfx ks) (IntKind.i64.wrap (i + (1 : Int))) (es.set i.toNat (mkAV Sh.str [AV.str (List.take ((↑(sE (es.getD i.toNat AV.unk)).length : Int).toNat - Int.toNat (2 : Int)) (List.drop (Int.toNat (2 : Int)) (sE (es.getD i.toNat AV.unk))))]))) none)] else none else none else none else none else none else none else none else none else none else none else none else none else none else k (Ex.exit (0 : Nat)) [AV.slv Sh.str ks, AV.slz Sh.str, AV.bool false, AV.own (900 : Nat), AV.int IntKind.i64 i] [some (Row.arr false Sh.str e es none)]) (by kernel_rfl) ?_
    rw [← hk]
    obtain ⟨_, hs, j, rfl, hj⟩ := cnt_spec hc
    obtain ⟨hl, hb⟩ := of_decide_eq_true hl
    by_cases hlt : j < es.length
    · obtain ⟨e1, e2, e3, e4, e5⟩ := cnt_facts hlt hs
      have hk2 : (sE (ks.getD j .unk)).length = 2 := of_decide_eq_true (List.all_eq_true.1 hall _ (by rw [getD_eq (show j < ks.length by omega)]; exact List.getElem_mem _))
      have hmk : ∀ x, mkAV Sh.str [AV.str x] = AV.str x := fun _ => rfl
      have hpre : Lib.hasPrefix (sE (es.getD j .unk)) (kfx ks j) = (decide (2 ≤ (sE (es.getD j .unk)).length) && ((sE (es.getD j .unk)).take 2 == sE (ks.getD j .unk))) := by
        unfold kfx
        rw [← Lib.hasPrefix_of_take, hk2]
      have t0 : List.take (Int.toNat 2 - Int.toNat 0) (List.drop 0 (sE (es.getD j .unk))) = (sE (es.getD j .unk)).take 2 := rfl
      have hks : inb (j : Int) ks.length = true := inb_true (by omega) (by omega)
      have g1 : ((ks.all fun k => decide ((sE k).length = 2)) && decide (es.length = ks.length ∧ ks.length ≤ 100)) = true := and_t hall (decide_eq_true ⟨hl, hb⟩)
      simp only [e1, e2, e3, e4, e5, Int.toNat_natCast, hmk, t0, hks, g1, List.length_set, cond_true, Bool.and_true, decide_eq_true hlt]
      by_cases h2 : 2 ≤ (sE (es.getD j .unk)).length
      · rw [decide_eq_true h2, Bool.true_and] at hpre
        have hs2 : slb 0 2 (sE (es.getD j .unk)).length = true := slb_true (by omega) (by omega) (by omega)
        have hs3 : slb 2 ((sE (es.getD j .unk)).length : Int) (sE (es.getD j .unk)).length = true := slb_true (by omega) (by omega) (by omega)
        rw [decide_eq_false (show ¬ ((sE (es.getD j .unk)).length : Int) < 2 by omega), hs2, hs3]
        cases hp : ((sE (es.getD j .unk)).take 2 == sE (ks.getD j .unk))
        · rw [hp] at hpre
          obtain ⟨q1, q2, q3⟩ := go_no _ hlt hpre
          rw [q1, q2, q3]
          rfl
        · rw [hp] at hpre
          have htr : Lib.trimPrefix (sE (es.getD j .unk)) (kfx ks j) = List.take ((sE (es.getD j .unk)).length - Int.toNat 2) (List.drop (Int.toNat 2) (sE (es.getD j .unk))) := by
            unfold Lib.trimPrefix
            rw [if_pos hpre]
            unfold kfx
            rw [hk2]
            exact (List.take_of_length_le (by rw [List.length_drop]; exact Nat.le_refl _)).symm
          rw [goB_yes _ hlt hpre, goI_yes _ hlt hpre, goL_yes _ hlt hpre, htr]
          rfl
      · rw [decide_eq_false h2, Bool.false_and] at hpre
        rw [decide_eq_true (show ((sE (es.getD j .unk)).length : Int) < 2 by omega)]
        obtain ⟨q1, q2, q3⟩ := go_no _ hlt hpre
        rw [q1, q2, q3]
        rfl
    · obtain rfl : j = es.length := by omega
      obtain ⟨q1, q2, q3⟩ := go_fin (kfx ks) es
      rw [decide_eq_false (by omega), q1, q2, q3]
      rfl
  · cases h
def F58 : List AV → Tr AV
  | [.str s, .slv .str ks] => .gd (decide (s.length ≤ 1000000) && (ks.all (fun k => decide ((sE k).length = 2)) && decide (ks.length ≤ 100))) (.leaf (.tup [.slv .str (vsL (kfx ks) ks.length s), .bool (vsB (kfx ks) ks.length s)]))
  | _ => .no
theorem ok58 : SumOK Tryz.prog 58 (ofT F58) ∧ SNat (ofT F58) := by
  refine fn1 (K := [(5, l58)]) (b := b58) (l := l58) gPi Tryz.func58 (by kernel_rfl) (by kernel_rfl) loop58 fun ρ avs k r h => ?_
  unfold F58 at h
  split at h
  · rename_i s ks
    obtain ⟨hc, hk⟩ := gd_some h
    refine Eq.trans (b := bif decide (s.length ≤ (1000000 : Nat)) && decide ((1 : Nat) ≤ ([59, 32] : List UInt8).length ∧ ([59, 32] : List UInt8).length ≤ (1000000 : Nat)) then bif (↑(List.map AV.str (Lib.split s ([59, 32] : List UInt8))).length : Int) != (↑ks.length : Int) then k (AV.tup [AV.slv Sh.str [], AV.bool false]) else bif cnt (↑(List.map AV.str (Lib.split s ([59, 32] : List UInt8))).length : Int) (0 : Int) (List.map AV.str (Lib.split s ([59, 32] : List UInt8))).length && ((ks.all fun k => decide ((sE k).length = (2 : Nat))) && decide ((List.map AV.str (Lib.split s ([59, 32] : List UInt8))).length = ks.length ∧ ks.length ≤ (100 : Nat))) then bif goB (kfx ks) (0 : Int) (List.map AV.str (Lib.split s ([59, 32] : List UInt8))) then k (AV.tup [AV.slv Sh.str (goL (kfx ks) (0 : Int) (List.map AV.str (Lib.split s ([59, 32] : List UInt8)))), AV.bool true]) else k (AV.tup [AV.slv Sh.str [], AV.bool false]) else none else none) (by kernel_rfl) ?_
    simp only [Bool.and_eq_true] at hc
    obtain ⟨hc1, hall, hc2⟩ := hc
    rw [← hk]
    have h1 := of_decide_eq_true hc1
    have h2 := of_decide_eq_true hc2
    have hle := split_le s [59, 32] (by decide)
    have hm : ((Lib.split s [59, 32]).map AV.str).length = (Lib.split s [59, 32]).length := List.length_map _
    unfold vsL vsB
    refine Eq.trans (cond_t (and_t hc1 rfl)) ?_
    cases he : ((((Lib.split s [59, 32]).map AV.str).length : Int) == (ks.length : Int))
    · simp only [bne, he, Bool.not_false, cond_true, Bool.false_and, cond_false]
      rfl
    · have he' : ((Lib.split s [59, 32]).map AV.str).length = ks.length := Int.ofNat.inj (by simpa using he)
      simp only [bne, he, Bool.not_true, cond_false, Bool.true_and]
      rw [cnt_zero (decide_eq_true (show ((Lib.split s [59, 32]).map AV.str).length ≤ 9223372036854775807 by omega)), hall, decide_eq_true (And.intro he' h2)]
      cases goB (kfx ks) 0 ((Lib.split s [59, 32]).map AV.str) <;> rfl
  · cases h
end Go.Proofs.YthdhfmdhjanoaaaGreatDoor
