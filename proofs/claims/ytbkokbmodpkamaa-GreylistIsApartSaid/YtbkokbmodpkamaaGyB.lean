/-
  Greylists: the order of entries, the search, what is wrong with a list, whether two lists are the same.
-/
import Derived.Test.YtbkokbmodpkamaaGyA
namespace Go.Proofs.Ytbkokbmodpkamaa
open Go.Ev

def hOf (e : AV) : List UInt8 := (e.cells.headD .unk).toStr
def fOf (e : AV) : List UInt8 := (e.cells.tail.headD .unk).toStr
def tOf (e : AV) : List UInt8 := (e.cells.tail.tail.headD .unk).toStr
def aOf (e : AV) : Int := (e.cells.tail.tail.tail.headD .unk).toInt
def lOf (e : AV) : Int := (e.cells.tail.tail.tail.tail.headD .unk).toInt
def knOf (e : AV) : Bool := (e.cells.tail.tail.tail.tail.tail.headD .unk).toBool
def kOf (e : AV) : K3 := (hOf e, fOf e, tOf e)

/-! cmp.Or -/
def iv (e : AV) : Int := (e.cells.headD .unk).toInt
noncomputable def b32 : Code := ((Try.f32.body.map loopsOf).getD []).headD .skip
def nzAt (es : List AV) (i : Nat) : Bool := iv (es.getD i .unk) != 0
def L32 : List AV → List (Option Row) → Tr LOut
  | [.int .i64 z, .int .i64 z3, .slv (.int .i64) es, .int .i64 n, .int .i64 i], [] =>
    .gd (cnt n i es.length && decide (z3 = 0)) (sT (nzAt es) es.length (fun q => .leaf (.ret, [.int .i64 (iv (es.getD q .unk)), .int .i64 0, .slv (.int .i64) es, .int .i64 n, .int .i64 (q : Nat)], [])) (.leaf (.exit 0, [.int .i64 z, .int .i64 0, .slv (.int .i64) es, .int .i64 n, .int .i64 es.length], [])) i.toNat)
  | _, _ => .no
def l32 : Ev.Loop := ⟨{ len := 18, slots := [2, 3, 6, 7, 8] }, ofL L32⟩
def μ32 (vs : List AV) (_ : List (Option Row)) : Nat := match vs with
  | [_, _, _, .int _ n, .int _ i] => (n - i).toNat
  | _ => 0
theorem loop32 : LoopOK Try.prog G0 [(3, l32)] b32 l32 := by
  refine loopT g0.natOK rfl (KOK.nil (by kernel_rfl)) μ32 (fun ρ vs rs k r h => ?_)
  unfold L32 at h
  split at h
  · rename_i z z3 es n i
    obtain ⟨hc, hk⟩ := gd_some h
    simp only [Bool.and_eq_true, decide_eq_true_eq] at hc
    obtain ⟨hc, rfl⟩ := hc
    obtain ⟨rfl, hs, j, rfl, hj⟩ := cnt_spec hc
    rw [Int.toNat_natCast] at hk
    refine Eq.trans (b := bif decide ((↑j : Int) < (↑es.length : Int)) then bif inb (↑j : Int) es.length then bif (iv (es.getD j AV.unk)) != (0 : Int) then k Ex.ret [AV.int IntKind.i64 (iv (es.getD j AV.unk)), AV.int IntKind.i64 (0 : Int), AV.slv (Sh.int IntKind.i64) es, AV.int IntKind.i64 (↑es.length : Int), AV.int IntKind.i64 (↑j : Int)] [] else bif decide (((↑es.length : Int) - IntKind.i64.wrap ((↑j : Int) + (1 : Int))).toNat < ((↑es.length : Int) - (↑j : Int)).toNat) then bif cnt (↑es.length : Int) (IntKind.i64.wrap ((↑j : Int) + (1 : Int))) es.length && decide ((0 : Int) = (0 : Int)) then bif (findN (nzAt es) es.length (IntKind.i64.wrap ((↑j : Int) + (1 : Int))).toNat).isSome then k Ex.ret [AV.int IntKind.i64 (iv (es.getD ((findN (nzAt es) es.length (IntKind.i64.wrap ((↑j : Int) + (1 : Int))).toNat).getD (0 : Nat)) AV.unk)), AV.int IntKind.i64 (0 : Int), AV.slv (Sh.int IntKind.i64) es, AV.int IntKind.i64 (↑es.length : Int), AV.int IntKind.i64 (↑((findN (nzAt es) es.length (IntKind.i64.wrap ((↑j : Int) + (1 : Int))).toNat).getD (0 : Nat)) : Int)] [] else k (Ex.exit (0 : Nat)) [AV.int IntKind.i64 z, AV.int IntKind.i64 (0 : Int), AV.slv (Sh.int IntKind.i64) es, AV.int IntKind.i64 (↑es.length : Int), AV.int IntKind.i64 (↑es.length : Int)] [] else none else none else none else k (Ex.exit (0 : Nat)) [AV.int IntKind.i64 z, AV.int IntKind.i64 (0 : Int), AV.slv (Sh.int IntKind.i64) es, AV.int IntKind.i64 (↑es.length : Int), AV.int IntKind.i64 (↑j : Int)] []) (by kernel_rfl) ?_
    rw [← hk]
    by_cases hlt : j < es.length
    · obtain ⟨e1, e2, e3, e4, e5⟩ := cnt_facts hlt hs
      rw [sT_step _ _ _ _ _ hlt]
      simp only [e1, e2, e3, e4, e5, cond_true, Int.toNat_natCast]
      rfl
    · obtain rfl : j = es.length := by omega
      rw [decide_eq_false (by omega), sT_end]
      rfl
  · cases h
def orL (es : List AV) : Int := match findN (nzAt es) es.length 0 with
  | some q => iv (es.getD q .unk)
  | none => 0
def F32 : List AV → Tr AV
  | [.slv (.int .i64) es] => .gd (small es.length) (.leaf (.int .i64 (orL es)))
  | _ => .no
theorem ok32 : SumOK Try.prog 32 (ofT F32) ∧ SNat (ofT F32) := by
  refine fn1 (K := [(3, l32)]) (b := b32) (l := l32) g0 Try.func32 (by kernel_rfl) (by kernel_rfl) loop32 fun ρ avs k r h => ?_
  unfold F32 at h
  split at h
  · rename_i es
    obtain ⟨hc, hk⟩ := gd_some h
    refine Eq.trans (b := bif cnt (↑es.length : Int) (0 : Int) es.length && decide ((0 : Int) = (0 : Int)) then bif (findN (nzAt es) es.length (0 : Nat)).isSome then k (AV.int IntKind.i64 (iv (es.getD ((findN (nzAt es) es.length (0 : Nat)).getD (0 : Nat)) AV.unk))) else k (AV.int IntKind.i64 (0 : Int)) else none) (by kernel_rfl) ?_
    rw [← hk, cnt_zero hc]
    unfold orL
    cases hf : findN (nzAt es) es.length 0 <;> rfl
  · cases h
/-! order -/
def ord3 (a b : K3) : Int := bif cmpS a.1 b.1 != 0 then cmpS a.1 b.1 else bif cmpS a.2.1 b.2.1 != 0 then cmpS a.2.1 b.2.1 else cmpS a.2.2 b.2.2
theorem or3 (x y z : Int) : orL [.int .i64 x, .int .i64 y, .int .i64 z] = bif x != 0 then x else bif y != 0 then y else z := by
  unfold orL
  have n0 : nzAt [.int .i64 x, .int .i64 y, .int .i64 z] 0 = (x != 0) := rfl
  have n1 : nzAt [.int .i64 x, .int .i64 y, .int .i64 z] 1 = (y != 0) := rfl
  have n2 : nzAt [.int .i64 x, .int .i64 y, .int .i64 z] 2 = (z != 0) := rfl
  rw [show [AV.int .i64 x, .int .i64 y, .int .i64 z].length = 3 from rfl, findN_step _ _ _ (by decide), findN_step _ _ _ (by decide), findN_step _ _ _ (by decide), findN_end _ _ _ (by decide), n0, n1, n2]
  cases h0 : x != 0
  · cases h1 : y != 0
    · cases h2 : z != 0
      · have : z = 0 := by simpa using h2
        subst this; rfl
      · rfl
    · rfl
  · rfl
theorem cmpS_ne (a b : List UInt8) : (cmpS a b != 0) = !(a == b) := by rw [bne, cmpS_zero]
theorem ord3_neg (a b : K3) : decide (ord3 a b < 0) = k3lt a b := by
  unfold ord3 k3lt
  rw [cmpS_ne, cmpS_ne]
  cases a.1 == b.1
  · exact cmpS_neg _ _
  · cases a.2.1 == b.2.1
    · exact cmpS_neg _ _
    · exact cmpS_neg _ _
theorem ord3_ge (a b : K3) : decide (ord3 a b ≥ 0) = !k3lt a b := by
  rw [← ord3_neg, ← decide_not]
  exact decide_eq_decide.2 (by omega)
theorem ord3_zero (a b : K3) : (ord3 a b == 0) = k3eq a b := by
  unfold ord3 k3eq
  rw [cmpS_ne, cmpS_ne]
  cases h1 : a.1 == b.1
  · show (cmpS a.1 b.1 == 0) = false
    rw [cmpS_zero, h1]
  · cases h2 : a.2.1 == b.2.1
    · show (cmpS a.2.1 b.2.1 == 0) = false
      rw [cmpS_zero, h2]
    · exact cmpS_zero _ _
noncomputable def G39 : Env := { pure := [(39, Fcmp)] }
theorem g39 : GOK Try.prog G39 := GOK.also g0 (cmp_ok Try.func39 (by kernel_rfl) (by kernel_rfl) (by kernel_rfl) (by kernel_rfl))
noncomputable def G37 : Env := { pure := [(37, evF Try.prog G39 [] Try.f37)] }
theorem g37 : GOK Try.prog G37 := GOK.also g0 (inl g39 Try.func37 (by kernel_rfl))
noncomputable def G33 : Env := { pure := [(32, ofT F32), (33, evF Try.prog G37 [] Try.f33)] }
theorem g33 : GOK Try.prog G33 := GOK.also (GOK.also g0 (inl g37 Try.func33 (by kernel_rfl))) ok32
def F20 : List AV → Tr AV
  | [.agg [.str hh, .str f, .str t, .int .i64 a, .int .i64 l, .bool kn], .agg [.str hh', .str f', .str t', .int .i64 a', .int .i64 l', .bool kn']] => .leaf (.int .i64 (ord3 (hh, f, t) (hh', f', t')))
  | _ => .no
theorem ok20 : SumOK Try.prog 20 (ofT F20) ∧ SNat (ofT F20) := by
  refine fn0 g33 Try.func20 (by kernel_rfl) fun ρ avs k r h => ?_
  unfold F20 at h
  split at h
  · rename_i hh f t a l kn hh' f' t' a' l' kn'
    have hk := h
    refine Eq.trans (b := k (AV.int IntKind.i64 (orL [AV.int IntKind.i64 (cmpS hh hh'), AV.int IntKind.i64 (cmpS f f'), AV.int IntKind.i64 (cmpS t t')]))) (by kernel_rfl) ?_
    rw [← hk, or3]
    rfl
  · cases h

/-! The search -/
noncomputable def G20 : Env := { pure := [(20, ofT F20)] }
theorem g20 : GOK Try.prog G20 := GOK.also g0 ok20
noncomputable def b19 : Code := ((Try.f19.body.map loopsOf).getD []).headD .skip
def ltN (x : K3) (es : List AV) (i : Nat) : Bool := decide (ord3 (kOf (es.getD i .unk)) x < 0)
def xE (hh f t : List UInt8) (a l : Int) (kn : Bool) : AV := .agg [.str hh, .str f, .str t, .int .i64 a, .int .i64 l, .bool kn]
def L19 : List AV → List (Option Row) → Tr LOut
  | [.slv (.agg [.str, .str, .str, .int .i64, .int .i64, .bool]) es, .fn 20 [], .ptr 0 0, .int .i64 z, .bool y, .int .i64 n, .int .i64 i, .int .i64 j], [some (.box false [.str hh, .str f, .str t, .int .i64 a, .int .i64 l, .bool kn])] =>
    .gd (decide (0 ≤ i) && (decide (i ≤ j) && (decide (j ≤ es.length) && decide (es.length ≤ 1000000)))) (.leaf (.exit 0, [.slv sE es, .fn 20 [], .ptr 0 0, .int .i64 z, .bool y, .int .i64 n, .int .i64 (bs (ltN (hh, f, t) es) (j.toNat - i.toNat) i.toNat j.toNat : Nat), .int .i64 (bs (ltN (hh, f, t) es) (j.toNat - i.toNat) i.toNat j.toNat : Nat)], [some (.box false [.str hh, .str f, .str t, .int .i64 a, .int .i64 l, .bool kn])]))
  | _, _ => .no
def l19 : Ev.Loop := ⟨{ len := 49, slots := [0, 2, 4, 6, 7, 8, 9, 10], rows := [0] }, ofL L19⟩
def μ19 (vs : List AV) (_ : List (Option Row)) : Nat := match vs with
  | [_, _, _, _, _, _, .int _ i, .int _ j] => (j - i).toNat
  | _ => 0
theorem loop19 : LoopOK Try.prog G20 [(3, l19)] b19 l19 := by
  refine loopT g20.natOK rfl (KOK.nil (by kernel_rfl)) μ19 (fun ρ vs rs k r h => ?_)
  unfold L19 at h
  split at h
  · rename_i es z y n i' j' hh f t a l kn
    obtain ⟨hc, hk⟩ := gd_some h
    simp only [Bool.and_eq_true, decide_eq_true_eq] at hc
    obtain ⟨c1, c2, c3, c4⟩ := hc
    obtain ⟨i, rfl⟩ : ∃ i : Nat, i' = i := ⟨i'.toNat, by omega⟩
    obtain ⟨j, rfl⟩ : ∃ j : Nat, j' = j := ⟨j'.toNat, by omega⟩
    simp only [Int.toNat_natCast] at hk
    refine Eq.trans (b := bif decide ((↑i : Int) < (↑j : Int)) then bif inb (IntKind.i64.wrap ((IntKind.u64.wrap (IntKind.i64.wrap ((↑i : Int) + (↑j : Int)))).fdiv ((2 : Int) ^ min (Int.toNat (1 : Int)) IntKind.u64.bits))) es.length then bif decide (ord3 ((hOf (es.getD (IntKind.i64.wrap ((IntKind.u64.wrap (IntKind.i64.wrap ((↑i : Int) + (↑j : Int)))).fdiv ((2 : Int) ^ min (Int.toNat (1 : Int)) IntKind.u64.bits))).toNat AV.unk)), (fOf (es.getD (IntKind.i64.wrap ((IntKind.u64.wrap (IntKind.i64.wrap ((↑i : Int) + (↑j : Int)))).fdiv ((2 : Int) ^ min (Int.toNat (1 : Int)) IntKind.u64.bits))).toNat AV.unk)), (tOf (es.getD (IntKind.i64.wrap ((IntKind.u64.wrap (IntKind.i64.wrap ((↑i : Int) + (↑j : Int)))).fdiv ((2 : Int) ^ min (Int.toNat (1 : Int)) IntKind.u64.bits))).toNat AV.unk))) (hh, f, t) < (0 : Int)) then bif decide (((↑j : Int) - IntKind.i64.wrap (IntKind.i64.wrap ((IntKind.u64.wrap (IntKind.i64.wrap ((↑i : Int) + (↑j : Int)))).fdiv ((2 : Int) ^ min (Int.toNat (1 : Int)) IntKind.u64.bits)) + (1 : Int))).toNat < ((↑j : Int) - (↑i : Int)).toNat) then bif decide ((0 : Int) ≤ IntKind.i64.wrap (IntKind.i64.wrap ((IntKind.u64.wrap (IntKind.i64.wrap ((↑i : Int) + (↑j : Int)))).fdiv ((2 : Int) ^ min (Int.toNat (1 : Int)) IntKind.u64.bits)) + (1 : Int))) && (decide (IntKind.i64.wrap (IntKind.i64.wrap ((IntKind.u64.wrap (IntKind.i64.wrap ((↑i : Int) + (↑j : Int)))).fdiv ((2 : Int) ^ min (Int.toNat (1 : Int)) IntKind.u64.bits)) + (1 : Int)) ≤ (↑j : Int)) && (decide ((↑j : Int) ≤ (↑es.length : Int)) && decide (es.length ≤ (1000000 : Nat)))) then k (Ex.exit (0 : Nat)) [AV.slv (Sh.agg [Sh.str, Sh.str, Sh.str, Sh.int IntKind.i64, Sh.int IntKind.i64, Sh.bool]) es, AV.fn (20 : Nat) [], AV.ptr (0 : Nat) (0 : Nat), AV.int IntKind.i64 z, AV.bool y, AV.int IntKind.i64 n, AV.int IntKind.i64 (↑(bs (ltN (hh, f, t) es) (j - (IntKind.i64.wrap (IntKind.i64.wrap ((IntKind.u64.wrap (IntKind.i64.wrap ((↑i : Int) + (↑j : Int)))).fdiv ((2 : Int) ^ min (Int.toNat (1 : Int)) IntKind.u64.bits)) + (1 : Int))).toNat) (IntKind.i64.wrap (IntKind.i64.wrap ((IntKind.u64.wrap (IntKind.i64.wrap ((↑i : Int) + (↑j : Int)))).fdiv ((2 : Int) ^ min (Int.toNat (1 : Int)) IntKind.u64.bits)) + (1 : Int))).toNat j) : Int), AV.int IntKind.i64 (↑(bs (ltN (hh, f, t) es) (j - (IntKind.i64.wrap (IntKind.i64.wrap ((IntKind.u64.wrap (IntKind.i64.wrap ((↑i : Int) + (↑j : Int)))).fdiv ((2 : Int) ^ min (Int.toNat (1 : Int)) IntKind.u64.bits)) + (1 : Int))).toNat) (IntKind.i64.wrap (IntKind.i64.wrap ((IntKind.u64.wrap (IntKind.i64.wrap ((↑i : Int) + (↑j : Int)))).fdiv ((2 : Int) ^ min (Int.toNat (1 : Int)) IntKind.u64.bits)) + (1 : Int))).toNat j) : Int)] [some (Row.box false [AV.str hh, AV.str f, AV.str t, AV.int IntKind.i64 a, AV.int IntKind.i64 l, AV.bool kn])] else none else none else bif decide ((IntKind.i64.wrap ((IntKind.u64.wrap (IntKind.i64.wrap ((↑i : Int) + (↑j : Int)))).fdiv ((2 : Int) ^ min (Int.toNat (1 : Int)) IntKind.u64.bits)) - (↑i : Int)).toNat < ((↑j : Int) - (↑i : Int)).toNat) then bif decide ((0 : Int) ≤ (↑i : Int)) && (decide ((↑i : Int) ≤ IntKind.i64.wrap ((IntKind.u64.wrap (IntKind.i64.wrap ((↑i : Int) + (↑j : Int)))).fdiv ((2 : Int) ^ min (Int.toNat (1 : Int)) IntKind.u64.bits))) && (decide (IntKind.i64.wrap ((IntKind.u64.wrap (IntKind.i64.wrap ((↑i : Int) + (↑j : Int)))).fdiv ((2 : Int) ^ min (Int.toNat (1 : Int)) IntKind.u64.bits)) ≤ (↑es.length : Int)) && decide (es.length ≤ (1000000 : Nat)))) then k (Ex.exit (0 : Nat)) [AV.slv (Sh.agg [Sh.str, Sh.str, Sh.str, Sh.int IntKind.i64, Sh.int IntKind.i64, Sh.bool]) es, AV.fn (20 : Nat) [], AV.ptr (0 : Nat) (0 : Nat), AV.int IntKind.i64 z, AV.bool y, AV.int IntKind.i64 n, AV.int IntKind.i64 (↑(bs (ltN (hh, f, t) es) ((IntKind.i64.wrap ((IntKind.u64.wrap (IntKind.i64.wrap ((↑i : Int) + (↑j : Int)))).fdiv ((2 : Int) ^ min (Int.toNat (1 : Int)) IntKind.u64.bits))).toNat - i) i (IntKind.i64.wrap ((IntKind.u64.wrap (IntKind.i64.wrap ((↑i : Int) + (↑j : Int)))).fdiv ((2 : Int) ^ min (Int.toNat (1 : Int)) IntKind.u64.bits))).toNat) : Int), AV.int IntKind.i64 (↑(bs (ltN (hh, f, t) es) ((IntKind.i64.wrap ((IntKind.u64.wrap (IntKind.i64.wrap ((↑i : Int) + (↑j : Int)))).fdiv ((2 : Int) ^ min (Int.toNat (1 : Int)) IntKind.u64.bits))).toNat - i) i (IntKind.i64.wrap ((IntKind.u64.wrap (IntKind.i64.wrap ((↑i : Int) + (↑j : Int)))).fdiv ((2 : Int) ^ min (Int.toNat (1 : Int)) IntKind.u64.bits))).toNat) : Int)] [some (Row.box false [AV.str hh, AV.str f, AV.str t, AV.int IntKind.i64 a, AV.int IntKind.i64 l, AV.bool kn])] else none else none else none else k (Ex.exit (0 : Nat)) [AV.slv (Sh.agg [Sh.str, Sh.str, Sh.str, Sh.int IntKind.i64, Sh.int IntKind.i64, Sh.bool]) es, AV.fn (20 : Nat) [], AV.ptr (0 : Nat) (0 : Nat), AV.int IntKind.i64 z, AV.bool y, AV.int IntKind.i64 n, AV.int IntKind.i64 (↑i : Int), AV.int IntKind.i64 (↑j : Int)] [some (Row.box false [AV.str hh, AV.str f, AV.str t, AV.int IntKind.i64 a, AV.int IntKind.i64 l, AV.bool kn])]) (by kernel_rfl) ?_
    rw [← hk]
    by_cases hlt : i < j
    · have hm := mid_eq i j (by omega)
      rw [bs_step _ i j hlt, hm]
      have hm1 : i ≤ (i + j) / 2 ∧ (i + j) / 2 < j := by omega
      generalize (i + j) / 2 = m at hm1
      have e1 : IntKind.i64.wrap ((m : Int) + 1) = ((m + 1 : Nat) : Int) := by rw [wrap_mid _ (by omega) (by omega)]; omega
      rw [e1]
      simp only [Int.toNat_natCast]
      refine Eq.trans (cond_t (by first | exact decide_eq_true (by omega) | exact inb_true (by omega) (by omega) | (simp only [Bool.and_eq_true, decide_eq_true_eq]; omega))) ?_
      refine Eq.trans (cond_t (by first | exact decide_eq_true (by omega) | exact inb_true (by omega) (by omega) | (simp only [Bool.and_eq_true, decide_eq_true_eq]; omega))) ?_
      show (bif ltN (hh, f, t) es m then _ else _) = _
      cases ltN (hh, f, t) es m
      · simp only [cond_false]
        refine Eq.trans (cond_t (by first | exact decide_eq_true (by omega) | exact inb_true (by omega) (by omega) | (simp only [Bool.and_eq_true, decide_eq_true_eq]; omega))) ?_
        refine Eq.trans (cond_t (by first | exact decide_eq_true (by omega) | exact inb_true (by omega) (by omega) | (simp only [Bool.and_eq_true, decide_eq_true_eq]; omega))) ?_
        rfl
      · simp only [cond_true]
        refine Eq.trans (cond_t (by first | exact decide_eq_true (by omega) | exact inb_true (by omega) (by omega) | (simp only [Bool.and_eq_true, decide_eq_true_eq]; omega))) ?_
        refine Eq.trans (cond_t (by first | exact decide_eq_true (by omega) | exact inb_true (by omega) (by omega) | (simp only [Bool.and_eq_true, decide_eq_true_eq]; omega))) ?_
        rfl
    · obtain rfl : i = j := by omega
      rw [decide_eq_false (by omega), show i - i = 0 from by omega]
      rfl
  · cases h
def atK (x : K3) (es : List AV) : Nat := bs (ltN x es) es.length 0 es.length
def isK (x : K3) (es : List AV) : Bool := decide (atK x es < es.length) && k3eq (kOf (es.getD (atK x es) .unk)) x
def F19 : List AV → Tr AV
  | [.slv (.agg [.str, .str, .str, .int .i64, .int .i64, .bool]) es, .agg [.str hh, .str f, .str t, .int .i64 a, .int .i64 l, .bool kn], .fn 20 []] => .gd (decide (es.length ≤ 1000000)) (.leaf (.tup [.int .i64 (atK (hh, f, t) es : Nat), .bool (isK (hh, f, t) es)]))
  | _ => .no
theorem ok19 : SumOK Try.prog 19 (ofT F19) ∧ SNat (ofT F19) := by
  refine fn1 (K := [(3, l19)]) (b := b19) (l := l19) g20 Try.func19 (by kernel_rfl) (by kernel_rfl) loop19 fun ρ avs k r h => ?_
  unfold F19 at h
  split at h
  · rename_i es hh f t a l kn
    obtain ⟨hc, hk⟩ := gd_some h
    have hc' := of_decide_eq_true hc
    refine Eq.trans (b := bif decide ((0 : Int) ≤ (0 : Int)) && (decide ((0 : Int) ≤ (↑es.length : Int)) && (decide ((↑es.length : Int) ≤ (↑es.length : Int)) && decide (es.length ≤ (1000000 : Nat)))) then bif decide ((↑(bs (ltN (hh, f, t) es) ((↑es.length : Int).toNat - Int.toNat (0 : Int)) (0 : Nat) (↑es.length : Int).toNat) : Int) < (↑es.length : Int)) then bif inb (↑(bs (ltN (hh, f, t) es) ((↑es.length : Int).toNat - Int.toNat (0 : Int)) (0 : Nat) (↑es.length : Int).toNat) : Int) es.length then k (AV.tup [AV.int IntKind.i64 (↑(bs (ltN (hh, f, t) es) ((↑es.length : Int).toNat - Int.toNat (0 : Int)) (0 : Nat) (↑es.length : Int).toNat) : Int), AV.bool (ord3 ((hOf (es.getD (↑(bs (ltN (hh, f, t) es) ((↑es.length : Int).toNat - Int.toNat (0 : Int)) (0 : Nat) (↑es.length : Int).toNat) : Int).toNat AV.unk)), (fOf (es.getD (↑(bs (ltN (hh, f, t) es) ((↑es.length : Int).toNat - Int.toNat (0 : Int)) (0 : Nat) (↑es.length : Int).toNat) : Int).toNat AV.unk)), (tOf (es.getD (↑(bs (ltN (hh, f, t) es) ((↑es.length : Int).toNat - Int.toNat (0 : Int)) (0 : Nat) (↑es.length : Int).toNat) : Int).toNat AV.unk))) (hh, f, t) == (0 : Int))]) else none else k (AV.tup [AV.int IntKind.i64 (↑(bs (ltN (hh, f, t) es) ((↑es.length : Int).toNat - Int.toNat (0 : Int)) (0 : Nat) (↑es.length : Int).toNat) : Int), AV.bool false]) else none) (by kernel_rfl) ?_
    rw [← hk]
    refine Eq.trans (cond_t (by first | exact decide_eq_true (by omega) | exact inb_true (by omega) (by omega) | (simp only [Bool.and_eq_true, decide_eq_true_eq]; omega))) ?_
    have hle : atK (hh, f, t) es ≤ es.length := (bs_le (ltN (hh, f, t) es) es.length 0 es.length (Nat.zero_le _)).1
    show (fun m : Nat => (bif decide ((m : Int) < es.length) then (bif inb m es.length then k (.tup [.int .i64 m, .bool (ord3 (kOf (es.getD m .unk)) (hh, f, t) == 0)]) else none) else k (.tup [.int .i64 m, .bool false]))) (atK (hh, f, t) es) = k (.tup [.int .i64 (atK (hh, f, t) es : Nat), .bool (isK (hh, f, t) es)])
    unfold isK
    generalize atK (hh, f, t) es = m at hle
    dsimp only
    by_cases hlt : m < es.length
    · rw [decide_eq_true (by omega : (m : Int) < es.length), decide_eq_true hlt, inb_true (by omega) (by omega)]
      simp only [cond_true, Bool.true_and]
      rw [← ord3_zero]
    · rw [decide_eq_false (by omega : ¬ (m : Int) < es.length), decide_eq_false hlt]
      rfl
  · cases h

/-! Validate, GreyFault -/
def codeB (a b c d e : Bool) : Int := bif a then 10 else bif b then 3 else bif c then 3 else bif d then 3 else bif e then 19 else 0
def ordN (es : List AV) (x : AV) (i : Nat) : Bool := decide ((i : Int) > 0) && !k3lt (kOf (es.getD (i - 1) .unk)) (kOf x)
def codeX (es : List AV) (x : AV) (i : Nat) : Int := codeB (!nm3 (hOf x) (fOf x) (tOf x)) (!tmB (aOf x)) (!tmB (lOf x)) (decide (lOf x < aOf x)) (ordN es x i)
def codeN (es xs : List AV) (i : Nat) : Int := codeX es (xs.getD i .unk) i
noncomputable def b9 : Code := ((Try.f9.body.map loopsOf).getD []).headD .skip
def L9 : List AV → List (Option Row) → Tr LOut
  | [.slv (.agg [.str, .str, .str, .int .i64, .int .i64, .bool]) es, .ptr 0 0, .slv (.agg [.str, .str, .str, .int .i64, .int .i64, .bool]) xs, .int .i64 n, .int .i64 i], [some (.box false [.int .i64 0, .int .i64 0])] =>
    .gd (cnt n i es.length && Nat.beq es.length xs.length) (sT (fun i => codeN es xs i != 0) es.length (fun q => .leaf (.ret, [.slv sE es, .ptr 0 0, .slv sE xs, .int .i64 n, .int .i64 (q : Nat)], [some (.box false [.int .i64 (codeN es xs q), .int .i64 q])]))
     (.leaf (.exit 0, [.slv sE es, .ptr 0 0, .slv sE xs, .int .i64 n, .int .i64 es.length], [some (.box false [.int .i64 0, .int .i64 0])])) i.toNat)
  | _, _ => .no
def l9 : Ev.Loop := ⟨{ len := 64, slots := [0, 2, 9, 10, 11], rows := [0] }, ofL L9⟩
def μ9 (vs : List AV) (_ : List (Option Row)) : Nat := match vs with
  | [_, _, _, .int _ d, .int _ i] => (d - i).toNat
  | _ => 0
noncomputable def G9 : Env := { G1 with pure := (20, ofT F20) :: (27, ofT F27) :: (31, ofT F31) :: G1.pure }
theorem g9 : GOK Try.prog G9 := GOK.also (GOK.also (GOK.also g1 ok31) ok27) ok20
theorem loop9 : LoopOK Try.prog G9 [(4, l9)] b9 l9 := by
  refine loopT g9.natOK rfl (KOK.nil (by kernel_rfl)) μ9 (fun ρ vs rs k r h => ?_)
  unfold L9 at h
  split at h
  · rename_i es xs n i
    obtain ⟨hc, hk⟩ := gd_some h
    simp only [Bool.and_eq_true] at hc
    obtain ⟨hc, hp⟩ := hc
    have hp' : es.length = xs.length := Nat.eq_of_beq_eq_true hp
    obtain ⟨rfl, hs, j, rfl, hj⟩ := cnt_spec hc
    rw [Int.toNat_natCast] at hk
    refine Eq.trans (b := bif decide ((↑j : Int) < (↑es.length : Int)) then bif inb (↑j : Int) xs.length then bif !nm3 (hOf (xs.getD j AV.unk)) (fOf (xs.getD j AV.unk)) (tOf (xs.getD j AV.unk)) then k Ex.ret [AV.slv (Sh.agg [Sh.str, Sh.str, Sh.str, Sh.int IntKind.i64, Sh.int IntKind.i64, Sh.bool]) es, AV.ptr (0 : Nat) (0 : Nat), AV.slv (Sh.agg [Sh.str, Sh.str, Sh.str, Sh.int IntKind.i64, Sh.int IntKind.i64, Sh.bool]) xs, AV.int IntKind.i64 (↑es.length : Int), AV.int IntKind.i64 (↑j : Int)] [some (Row.box false [AV.int IntKind.i64 (10 : Int), AV.int IntKind.i64 (↑j : Int)])] else bif !tmB (aOf (xs.getD j AV.unk)) then k Ex.ret [AV.slv (Sh.agg [Sh.str, Sh.str, Sh.str, Sh.int IntKind.i64, Sh.int IntKind.i64, Sh.bool]) es, AV.ptr (0 : Nat) (0 : Nat), AV.slv (Sh.agg [Sh.str, Sh.str, Sh.str, Sh.int IntKind.i64, Sh.int IntKind.i64, Sh.bool]) xs, AV.int IntKind.i64 (↑es.length : Int), AV.int IntKind.i64 (↑j : Int)] [some (Row.box false [AV.int IntKind.i64 (3 : Int), AV.int IntKind.i64 (↑j : Int)])] else bif !tmB (lOf (xs.getD j AV.unk)) then k Ex.ret [AV.slv (Sh.agg [Sh.str, Sh.str, Sh.str, Sh.int IntKind.i64, Sh.int IntKind.i64, Sh.bool]) es, AV.ptr (0 : Nat) (0 : Nat), AV.slv (Sh.agg [Sh.str, Sh.str, Sh.str, Sh.int IntKind.i64, Sh.int IntKind.i64, Sh.bool]) xs, AV.int IntKind.i64 (↑es.length : Int), AV.int IntKind.i64 (↑j : Int)] [some (Row.box false [AV.int IntKind.i64 (3 : Int), AV.int IntKind.i64 (↑j : Int)])] else bif decide ((lOf (xs.getD j AV.unk)) < (aOf (xs.getD j AV.unk))) then k Ex.ret [AV.slv (Sh.agg [Sh.str, Sh.str, Sh.str, Sh.int IntKind.i64, Sh.int IntKind.i64, Sh.bool]) es, AV.ptr (0 : Nat) (0 : Nat), AV.slv (Sh.agg [Sh.str, Sh.str, Sh.str, Sh.int IntKind.i64, Sh.int IntKind.i64, Sh.bool]) xs, AV.int IntKind.i64 (↑es.length : Int), AV.int IntKind.i64 (↑j : Int)] [some (Row.box false [AV.int IntKind.i64 (3 : Int), AV.int IntKind.i64 (↑j : Int)])] else bif decide ((↑j : Int) > (0 : Int)) then bif inb (IntKind.i64.wrap ((↑j : Int) - (1 : Int))) es.length then bif decide (ord3 ((hOf (es.getD (IntKind.i64.wrap ((↑j : Int) - (1 : Int))).toNat AV.unk)), (fOf (es.getD (IntKind.i64.wrap ((↑j : Int) - (1 : Int))).toNat AV.unk)), (tOf (es.getD (IntKind.i64.wrap ((↑j : Int) - (1 : Int))).toNat AV.unk))) ((hOf (xs.getD j AV.unk)), (fOf (xs.getD j AV.unk)), (tOf (xs.getD j AV.unk))) ≥ (0 : Int)) then k Ex.ret [AV.slv (Sh.agg [Sh.str, Sh.str, Sh.str, Sh.int IntKind.i64, Sh.int IntKind.i64, Sh.bool]) es, AV.ptr (0 : Nat) (0 : Nat), AV.slv (Sh.agg [Sh.str, Sh.str, Sh.str, Sh.int IntKind.i64, Sh.int IntKind.i64, Sh.bool]) xs, AV.int IntKind.i64 (↑es.length : Int), AV.int IntKind.i64 (↑j : Int)] [some (Row.box false [AV.int IntKind.i64 (19 : Int), AV.int IntKind.i64 (↑j : Int)])] else bif decide (((↑es.length : Int) - IntKind.i64.wrap ((↑j : Int) + (1 : Int))).toNat < ((↑es.length : Int) - (↑j : Int)).toNat) then bif cnt (↑es.length : Int) (IntKind.i64.wrap ((↑j : Int) + (1 : Int))) es.length && es.length.beq xs.length then bif (findN (fun i => codeN es xs i != (0 : Int)) es.length (IntKind.i64.wrap ((↑j : Int) + (1 : Int))).toNat).isSome then k Ex.ret [AV.slv (Sh.agg [Sh.str, Sh.str, Sh.str, Sh.int IntKind.i64, Sh.int IntKind.i64, Sh.bool]) es, AV.ptr (0 : Nat) (0 : Nat), AV.slv (Sh.agg [Sh.str, Sh.str, Sh.str, Sh.int IntKind.i64, Sh.int IntKind.i64, Sh.bool]) xs, AV.int IntKind.i64 (↑es.length : Int), AV.int IntKind.i64 (↑((findN (fun i => codeN es xs i != (0 : Int)) es.length (IntKind.i64.wrap ((↑j : Int) + (1 : Int))).toNat).getD (0 : Nat)) : Int)] [some (Row.box false [AV.int IntKind.i64 (codeN es xs ((findN (fun i => codeN es xs i != (0 : Int)) es.length (IntKind.i64.wrap ((↑j : Int) + (1 : Int))).toNat).getD (0 : Nat))), AV.int IntKind.i64 (↑((findN (fun i => codeN es xs i != (0 : Int)) es.length (IntKind.i64.wrap ((↑j : Int) + (1 : Int))).toNat).getD (0 : Nat)) : Int)])] else k (Ex.exit (0 : Nat)) [AV.slv (Sh.agg [Sh.str, Sh.str, Sh.str, Sh.int IntKind.i64, Sh.int IntKind.i64, Sh.bool]) es, AV.ptr (0 : Nat) (0 : Nat), AV.slv (Sh.agg [Sh.str, Sh.str, Sh.str, Sh.int IntKind.i64, Sh.int IntKind.i64, Sh.bool]) xs, AV.int IntKind.i64 (↑es.length : Int), AV.int IntKind.i64 (↑es.length : Int)] [some (Row.box false [AV.int IntKind.i64 (0 : Int), AV.int IntKind.i64 (0 : Int)])] else none else none else none else bif decide (((↑es.length : Int) - IntKind.i64.wrap ((↑j : Int) + (1 : Int))).toNat < ((↑es.length : Int) - (↑j : Int)).toNat) then bif cnt (↑es.length : Int) (IntKind.i64.wrap ((↑j : Int) + (1 : Int))) es.length && es.length.beq xs.length then bif (findN (fun i => codeN es xs i != (0 : Int)) es.length (IntKind.i64.wrap ((↑j : Int) + (1 : Int))).toNat).isSome then k Ex.ret [AV.slv (Sh.agg [Sh.str, Sh.str, Sh.str, Sh.int IntKind.i64, Sh.int IntKind.i64, Sh.bool]) es, AV.ptr (0 : Nat) (0 : Nat), AV.slv (Sh.agg [Sh.str, Sh.str, Sh.str, Sh.int IntKind.i64, Sh.int IntKind.i64, Sh.bool]) xs, AV.int IntKind.i64 (↑es.length : Int), AV.int IntKind.i64 (↑((findN (fun i => codeN es xs i != (0 : Int)) es.length (IntKind.i64.wrap ((↑j : Int) + (1 : Int))).toNat).getD (0 : Nat)) : Int)] [some (Row.box false [AV.int IntKind.i64 (codeN es xs ((findN (fun i => codeN es xs i != (0 : Int)) es.length (IntKind.i64.wrap ((↑j : Int) + (1 : Int))).toNat).getD (0 : Nat))), AV.int IntKind.i64 (↑((findN (fun i => codeN es xs i != (0 : Int)) es.length (IntKind.i64.wrap ((↑j : Int) + (1 : Int))).toNat).getD (0 : Nat)) : Int)])] else k (Ex.exit (0 : Nat)) [AV.slv (Sh.agg [Sh.str, Sh.str, Sh.str, Sh.int IntKind.i64, Sh.int IntKind.i64, Sh.bool]) es, AV.ptr (0 : Nat) (0 : Nat), AV.slv (Sh.agg [Sh.str, Sh.str, Sh.str, Sh.int IntKind.i64, Sh.int IntKind.i64, Sh.bool]) xs, AV.int IntKind.i64 (↑es.length : Int), AV.int IntKind.i64 (↑es.length : Int)] [some (Row.box false [AV.int IntKind.i64 (0 : Int), AV.int IntKind.i64 (0 : Int)])] else none else none else none else k (Ex.exit (0 : Nat)) [AV.slv (Sh.agg [Sh.str, Sh.str, Sh.str, Sh.int IntKind.i64, Sh.int IntKind.i64, Sh.bool]) es, AV.ptr (0 : Nat) (0 : Nat), AV.slv (Sh.agg [Sh.str, Sh.str, Sh.str, Sh.int IntKind.i64, Sh.int IntKind.i64, Sh.bool]) xs, AV.int IntKind.i64 (↑es.length : Int), AV.int IntKind.i64 (↑j : Int)] [some (Row.box false [AV.int IntKind.i64 (0 : Int), AV.int IntKind.i64 (0 : Int)])]) (by kernel_rfl) ?_
    rw [← hk]
    by_cases hlt : j < es.length
    · obtain ⟨e1, e2, e3, e4, e5⟩ := cnt_facts hlt hs
      rw [sT_step _ _ _ _ _ hlt]
      have e6 : inb (j : Int) xs.length = true := hp' ▸ e2
      have e7 : codeN es xs j = codeB (!nm3 (hOf (xs.getD j .unk)) (fOf (xs.getD j .unk)) (tOf (xs.getD j .unk))) (!tmB (aOf (xs.getD j .unk))) (!tmB (lOf (xs.getD j .unk))) (decide (lOf (xs.getD j .unk) < aOf (xs.getD j .unk))) (ordN es (xs.getD j .unk) j) := rfl
      rcases Nat.eq_zero_or_pos j with h0 | h0
      · have e8 : ordN es (xs.getD j .unk) j = false := by subst h0; rfl
        have e9 : decide ((j : Int) > 0) = false := decide_eq_false (by omega)
        simp only [e1, e2, e3, e4, e5, e6, e7, e8, e9, hp, cond_true, cond_false, Int.toNat_natCast, Bool.and_self]
        generalize (!nm3 (hOf (xs.getD j .unk)) (fOf (xs.getD j .unk)) (tOf (xs.getD j .unk))) = a1
        generalize (!tmB (aOf (xs.getD j .unk))) = a2
        generalize (!tmB (lOf (xs.getD j .unk))) = a3
        generalize decide (lOf (xs.getD j .unk) < aOf (xs.getD j .unk)) = a4
        cases a1 <;> cases a2 <;> cases a3 <;> cases a4 <;> rfl
      · have e8 : ordN es (xs.getD j .unk) j = decide (ord3 (kOf (es.getD (j - 1) .unk)) (kOf (xs.getD j .unk)) ≥ 0) := by
          unfold ordN; rw [decide_eq_true (by omega), ord3_ge]; rfl
        have e9 : decide ((j : Int) > 0) = true := decide_eq_true (by omega)
        have e10 : IntKind.i64.wrap ((j : Int) - 1) = ((j - 1 : Nat) : Int) := by rw [wrap_small _ (by omega) (by omega)]; omega
        have e11 : inb ((j - 1 : Nat) : Int) es.length = true := inb_true (by omega) (by omega)
        rw [show es.getD (IntKind.i64.wrap ((j : Int) - 1)).toNat .unk = es.getD (j - 1) .unk from by rw [e10, Int.toNat_natCast]]
        simp only [e1, e2, e3, e4, e5, e6, e7, e8, e9, e10, e11, hp, cond_true, cond_false, Int.toNat_natCast, Bool.and_self]
        generalize (!nm3 (hOf (xs.getD j .unk)) (fOf (xs.getD j .unk)) (tOf (xs.getD j .unk))) = a1
        generalize (!tmB (aOf (xs.getD j .unk))) = a2
        generalize (!tmB (lOf (xs.getD j .unk))) = a3
        generalize decide (lOf (xs.getD j .unk) < aOf (xs.getD j .unk)) = a4
        show _ = _
        unfold kOf
        generalize decide (ord3 (hOf (es.getD (j - 1) .unk), fOf (es.getD (j - 1) .unk), tOf (es.getD (j - 1) .unk)) (hOf (xs.getD j .unk), fOf (xs.getD j .unk), tOf (xs.getD j .unk)) ≥ 0) = a6
        cases a1 <;> cases a2 <;> cases a3 <;> cases a4 <;> cases a6 <;> rfl
    · obtain rfl : j = es.length := by omega
      rw [decide_eq_false (by omega), sT_end]
      rfl
  · cases h
def fault (x : Int × Int) : AV := .agg [.int .i64 x.1, .int .i64 x.2]
def badS (es : List AV) : Option Nat := findN (fun i => codeN es es i != 0) es.length 0
def listF (es : List AV) : Int × Int := bif decide ((es.length : Int) > 300) then (2, -1) else bif (badS es).isSome then (codeN es es ((badS es).getD 0), (((badS es).getD 0 : Nat) : Int)) else (0, 0)
def F9 : List AV → Tr AV
  | [.slv (.agg [.str, .str, .str, .int .i64, .int .i64, .bool]) es] => .gd (small es.length) (.leaf (fault (listF es)))
  | _ => .no
theorem listF_br {α : Type} (es : List AV) (k : AV → α) : (bif decide ((es.length : Int) > 300) then k (.agg [.int .i64 2, .int .i64 (-1)]) else bif (badS es).isSome then k (.agg [.int .i64 (codeN es es ((badS es).getD 0)), .int .i64 (((badS es).getD 0 : Nat) : Int)]) else k (.agg [.int .i64 0, .int .i64 0])) = k (fault (listF es)) := by
  unfold listF
  generalize decide ((es.length : Int) > 300) = a
  cases a <;> cases (badS es) <;> rfl
theorem ok9 : SumOK Try.prog 9 (ofT F9) ∧ SNat (ofT F9) := by
  refine fn1 (K := [(4, l9)]) (b := b9) (l := l9) g9 Try.func9 (by kernel_rfl) (by kernel_rfl) loop9 fun ρ avs k r h => ?_
  unfold F9 at h
  split at h
  · rename_i es
    obtain ⟨hc, hk⟩ := gd_some h
    refine Eq.trans (b := bif decide ((↑es.length : Int) > (300 : Int)) then k (AV.agg [AV.int IntKind.i64 (2 : Int), AV.int IntKind.i64 (-1 : Int)]) else bif cnt (↑es.length : Int) (0 : Int) es.length && es.length.beq es.length then bif (findN (fun i => codeN es es i != (0 : Int)) es.length (0 : Nat)).isSome then k (AV.agg [AV.int IntKind.i64 (codeN es es ((findN (fun i => codeN es es i != (0 : Int)) es.length (0 : Nat)).getD (0 : Nat))), AV.int IntKind.i64 (↑((findN (fun i => codeN es es i != (0 : Int)) es.length (0 : Nat)).getD (0 : Nat)) : Int)]) else k (AV.agg [AV.int IntKind.i64 (0 : Int), AV.int IntKind.i64 (0 : Int)]) else none) (by kernel_rfl) ?_
    rw [← hk, cnt_zero hc, Nat.beq_refl]
    exact listF_br es k
  · cases h
noncomputable def b10 : Code := ((Try.f10.body.map loopsOf).getD []).headD .skip
def L10 : List AV → List (Option Row) → Tr LOut
  | [.slv (.agg [.str, .str, .str, .int .i64, .int .i64, .bool]) es, .ptr 0 0, .int .i64 i], [some (.box false [.int .i64 0, .int .i64 0])] =>
    .gd (cnt es.length i es.length) (sT (fun i => codeN es es i != 0) es.length (fun q => .leaf (.ret, [.slv sE es, .ptr 0 0, .int .i64 (q : Nat)], [some (.box false [.int .i64 (codeN es es q), .int .i64 q])]))
     (.leaf (.exit 0, [.slv sE es, .ptr 0 0, .int .i64 es.length], [some (.box false [.int .i64 0, .int .i64 0])])) i.toNat)
  | _, _ => .no
def l10 : Ev.Loop := ⟨{ len := 71, slots := [0, 2, 3], rows := [0] }, ofL L10⟩
def μ10 (vs : List AV) (_ : List (Option Row)) : Nat := match vs with
  | [.slv _ es, _, .int _ i] => ((es.length : Int) - i).toNat
  | _ => 0
theorem loop10 : LoopOK Try.prog G9 [(4, l10)] b10 l10 := by
  refine loopT g9.natOK rfl (KOK.nil (by kernel_rfl)) μ10 (fun ρ vs rs k r h => ?_)
  unfold L10 at h
  split at h
  · rename_i es i
    obtain ⟨hc, hk⟩ := gd_some h
    obtain ⟨_, hs, j, rfl, hj⟩ := cnt_spec hc
    rw [Int.toNat_natCast] at hk
    refine Eq.trans (b := bif decide ((↑j : Int) < (↑es.length : Int)) then bif inb (↑j : Int) es.length then bif !nm3 (hOf (es.getD j AV.unk)) (fOf (es.getD j AV.unk)) (tOf (es.getD j AV.unk)) then k Ex.ret [AV.slv (Sh.agg [Sh.str, Sh.str, Sh.str, Sh.int IntKind.i64, Sh.int IntKind.i64, Sh.bool]) es, AV.ptr (0 : Nat) (0 : Nat), AV.int IntKind.i64 (↑j : Int)] [some (Row.box false [AV.int IntKind.i64 (10 : Int), AV.int IntKind.i64 (↑j : Int)])] else bif inb (↑j : Int) es.length then bif !inR (aOf (es.getD j AV.unk)) (-68719476736 : Int) (68719476736 : Int) then k Ex.ret [AV.slv (Sh.agg [Sh.str, Sh.str, Sh.str, Sh.int IntKind.i64, Sh.int IntKind.i64, Sh.bool]) es, AV.ptr (0 : Nat) (0 : Nat), AV.int IntKind.i64 (↑j : Int)] [some (Row.box false [AV.int IntKind.i64 (3 : Int), AV.int IntKind.i64 (↑j : Int)])] else bif inb (↑j : Int) es.length then bif !inR (lOf (es.getD j AV.unk)) (-68719476736 : Int) (68719476736 : Int) then k Ex.ret [AV.slv (Sh.agg [Sh.str, Sh.str, Sh.str, Sh.int IntKind.i64, Sh.int IntKind.i64, Sh.bool]) es, AV.ptr (0 : Nat) (0 : Nat), AV.int IntKind.i64 (↑j : Int)] [some (Row.box false [AV.int IntKind.i64 (3 : Int), AV.int IntKind.i64 (↑j : Int)])] else bif inb (↑j : Int) es.length then bif inb (↑j : Int) es.length then bif decide ((lOf (es.getD j AV.unk)) < (aOf (es.getD j AV.unk))) then k Ex.ret [AV.slv (Sh.agg [Sh.str, Sh.str, Sh.str, Sh.int IntKind.i64, Sh.int IntKind.i64, Sh.bool]) es, AV.ptr (0 : Nat) (0 : Nat), AV.int IntKind.i64 (↑j : Int)] [some (Row.box false [AV.int IntKind.i64 (3 : Int), AV.int IntKind.i64 (↑j : Int)])] else bif decide ((↑j : Int) > (0 : Int)) then bif inb (IntKind.i64.wrap ((↑j : Int) - (1 : Int))) es.length then bif inb (↑j : Int) es.length then bif !k3lt ((hOf (es.getD (IntKind.i64.wrap ((↑j : Int) - (1 : Int))).toNat AV.unk)), (fOf (es.getD (IntKind.i64.wrap ((↑j : Int) - (1 : Int))).toNat AV.unk)), (tOf (es.getD (IntKind.i64.wrap ((↑j : Int) - (1 : Int))).toNat AV.unk))) ((hOf (es.getD j AV.unk)), (fOf (es.getD j AV.unk)), (tOf (es.getD j AV.unk))) then k Ex.ret [AV.slv (Sh.agg [Sh.str, Sh.str, Sh.str, Sh.int IntKind.i64, Sh.int IntKind.i64, Sh.bool]) es, AV.ptr (0 : Nat) (0 : Nat), AV.int IntKind.i64 (↑j : Int)] [some (Row.box false [AV.int IntKind.i64 (19 : Int), AV.int IntKind.i64 (↑j : Int)])] else bif decide (((↑es.length : Int) - IntKind.i64.wrap ((↑j : Int) + (1 : Int))).toNat < ((↑es.length : Int) - (↑j : Int)).toNat) then bif cnt (↑es.length : Int) (IntKind.i64.wrap ((↑j : Int) + (1 : Int))) es.length then bif (findN (fun i => codeN es es i != (0 : Int)) es.length (IntKind.i64.wrap ((↑j : Int) + (1 : Int))).toNat).isSome then k Ex.ret [AV.slv (Sh.agg [Sh.str, Sh.str, Sh.str, Sh.int IntKind.i64, Sh.int IntKind.i64, Sh.bool]) es, AV.ptr (0 : Nat) (0 : Nat), AV.int IntKind.i64 (↑((findN (fun i => codeN es es i != (0 : Int)) es.length (IntKind.i64.wrap ((↑j : Int) + (1 : Int))).toNat).getD (0 : Nat)) : Int)] [some (Row.box false [AV.int IntKind.i64 (codeN es es ((findN (fun i => codeN es es i != (0 : Int)) es.length (IntKind.i64.wrap ((↑j : Int) + (1 : Int))).toNat).getD (0 : Nat))), AV.int IntKind.i64 (↑((findN (fun i => codeN es es i != (0 : Int)) es.length (IntKind.i64.wrap ((↑j : Int) + (1 : Int))).toNat).getD (0 : Nat)) : Int)])] else k (Ex.exit (0 : Nat)) [AV.slv (Sh.agg [Sh.str, Sh.str, Sh.str, Sh.int IntKind.i64, Sh.int IntKind.i64, Sh.bool]) es, AV.ptr (0 : Nat) (0 : Nat), AV.int IntKind.i64 (↑es.length : Int)] [some (Row.box false [AV.int IntKind.i64 (0 : Int), AV.int IntKind.i64 (0 : Int)])] else none else none else none else none else bif decide (((↑es.length : Int) - IntKind.i64.wrap ((↑j : Int) + (1 : Int))).toNat < ((↑es.length : Int) - (↑j : Int)).toNat) then bif cnt (↑es.length : Int) (IntKind.i64.wrap ((↑j : Int) + (1 : Int))) es.length then bif (findN (fun i => codeN es es i != (0 : Int)) es.length (IntKind.i64.wrap ((↑j : Int) + (1 : Int))).toNat).isSome then k Ex.ret [AV.slv (Sh.agg [Sh.str, Sh.str, Sh.str, Sh.int IntKind.i64, Sh.int IntKind.i64, Sh.bool]) es, AV.ptr (0 : Nat) (0 : Nat), AV.int IntKind.i64 (↑((findN (fun i => codeN es es i != (0 : Int)) es.length (IntKind.i64.wrap ((↑j : Int) + (1 : Int))).toNat).getD (0 : Nat)) : Int)] [some (Row.box false [AV.int IntKind.i64 (codeN es es ((findN (fun i => codeN es es i != (0 : Int)) es.length (IntKind.i64.wrap ((↑j : Int) + (1 : Int))).toNat).getD (0 : Nat))), AV.int IntKind.i64 (↑((findN (fun i => codeN es es i != (0 : Int)) es.length (IntKind.i64.wrap ((↑j : Int) + (1 : Int))).toNat).getD (0 : Nat)) : Int)])] else k (Ex.exit (0 : Nat)) [AV.slv (Sh.agg [Sh.str, Sh.str, Sh.str, Sh.int IntKind.i64, Sh.int IntKind.i64, Sh.bool]) es, AV.ptr (0 : Nat) (0 : Nat), AV.int IntKind.i64 (↑es.length : Int)] [some (Row.box false [AV.int IntKind.i64 (0 : Int), AV.int IntKind.i64 (0 : Int)])] else none else none else none else none else none else none else none else k (Ex.exit (0 : Nat)) [AV.slv (Sh.agg [Sh.str, Sh.str, Sh.str, Sh.int IntKind.i64, Sh.int IntKind.i64, Sh.bool]) es, AV.ptr (0 : Nat) (0 : Nat), AV.int IntKind.i64 (↑j : Int)] [some (Row.box false [AV.int IntKind.i64 (0 : Int), AV.int IntKind.i64 (0 : Int)])]) (by kernel_rfl) ?_
    rw [← hk]
    by_cases hlt : j < es.length
    · obtain ⟨e1, e2, e3, e4, e5⟩ := cnt_facts hlt hs
      rw [sT_step _ _ _ _ _ hlt]
      have e7 : codeN es es j = codeB (!nm3 (hOf (es.getD j .unk)) (fOf (es.getD j .unk)) (tOf (es.getD j .unk))) (!inR (aOf (es.getD j .unk)) (-68719476736) 68719476736) (!inR (lOf (es.getD j .unk)) (-68719476736) 68719476736) (decide (lOf (es.getD j .unk) < aOf (es.getD j .unk))) (ordN es (es.getD j .unk) j) := rfl
      rcases Nat.eq_zero_or_pos j with h0 | h0
      · have e8 : ordN es (es.getD j .unk) j = false := by subst h0; rfl
        have e9 : decide ((j : Int) > 0) = false := decide_eq_false (by omega)
        simp only [e1, e2, e3, e4, e5, e7, e8, e9, cond_true, cond_false, Int.toNat_natCast]
        generalize (!nm3 (hOf (es.getD j .unk)) (fOf (es.getD j .unk)) (tOf (es.getD j .unk))) = a1
        generalize (!inR (aOf (es.getD j .unk)) (-68719476736) 68719476736) = a2
        generalize (!inR (lOf (es.getD j .unk)) (-68719476736) 68719476736) = a3
        generalize decide (lOf (es.getD j .unk) < aOf (es.getD j .unk)) = a4
        cases a1 <;> cases a2 <;> cases a3 <;> cases a4 <;> rfl
      · have e8 : ordN es (es.getD j .unk) j = !k3lt (hOf (es.getD (j - 1) .unk), fOf (es.getD (j - 1) .unk), tOf (es.getD (j - 1) .unk)) (hOf (es.getD j .unk), fOf (es.getD j .unk), tOf (es.getD j .unk)) := by
          unfold ordN; rw [decide_eq_true (by omega)]; rfl
        have e9 : decide ((j : Int) > 0) = true := decide_eq_true (by omega)
        have e10 : IntKind.i64.wrap ((j : Int) - 1) = ((j - 1 : Nat) : Int) := by rw [wrap_small _ (by omega) (by omega)]; omega
        have e11 : inb ((j - 1 : Nat) : Int) es.length = true := inb_true (by omega) (by omega)
        rw [show es.getD (IntKind.i64.wrap ((j : Int) - 1)).toNat .unk = es.getD (j - 1) .unk from by rw [e10, Int.toNat_natCast]]
        simp only [e1, e2, e3, e4, e5, e7, e8, e9, e10, e11, cond_true, Int.toNat_natCast]
        generalize (!nm3 (hOf (es.getD j .unk)) (fOf (es.getD j .unk)) (tOf (es.getD j .unk))) = a1
        generalize (!inR (aOf (es.getD j .unk)) (-68719476736) 68719476736) = a2
        generalize (!inR (lOf (es.getD j .unk)) (-68719476736) 68719476736) = a3
        generalize decide (lOf (es.getD j .unk) < aOf (es.getD j .unk)) = a4
        generalize k3lt (hOf (es.getD (j - 1) .unk), fOf (es.getD (j - 1) .unk), tOf (es.getD (j - 1) .unk)) (hOf (es.getD j .unk), fOf (es.getD j .unk), tOf (es.getD j .unk)) = a6
        cases a1 <;> cases a2 <;> cases a3 <;> cases a4 <;> cases a6 <;> rfl
    · obtain rfl : j = es.length := by omega
      rw [decide_eq_false (by omega), sT_end]
      rfl
  · cases h
theorem ok10 : SumOK Try.prog 10 (ofT F9) ∧ SNat (ofT F9) := by
  refine fn1 (K := [(4, l10)]) (b := b10) (l := l10) g9 Try.func10 (by kernel_rfl) (by kernel_rfl) loop10 fun ρ avs k r h => ?_
  unfold F9 at h
  split at h
  · rename_i es
    obtain ⟨hc, hk⟩ := gd_some h
    refine Eq.trans (b := bif decide ((↑es.length : Int) > (300 : Int)) then k (AV.agg [AV.int IntKind.i64 (2 : Int), AV.int IntKind.i64 (-1 : Int)]) else bif cnt (↑es.length : Int) (0 : Int) es.length then bif (findN (fun i => codeN es es i != (0 : Int)) es.length (0 : Nat)).isSome then k (AV.agg [AV.int IntKind.i64 (codeN es es ((findN (fun i => codeN es es i != (0 : Int)) es.length (0 : Nat)).getD (0 : Nat))), AV.int IntKind.i64 (↑((findN (fun i => codeN es es i != (0 : Int)) es.length (0 : Nat)).getD (0 : Nat)) : Int)]) else k (AV.agg [AV.int IntKind.i64 (0 : Int), AV.int IntKind.i64 (0 : Int)]) else none) (by kernel_rfl) ?_
    rw [← hk, cnt_zero hc]
    exact listF_br es k
  · cases h

/-! SameGrey -/
noncomputable def b11 : Code := ((Try.f11.body.map loopsOf).getD []).headD .skip
def difE (x y : AV) : Bool := !(hOf x == hOf y && (fOf x == fOf y && (tOf x == tOf y && (aOf x == aOf y && (lOf x == lOf y && (knOf x == knOf y && true))))))
def difS (xs ys : List AV) (i : Nat) : Bool := difE (xs.getD i .unk) (ys.getD i .unk)
def L11 : List AV → List (Option Row) → Tr LOut
  | [.slv (.agg [.str, .str, .str, .int .i64, .int .i64, .bool]) xs, .slv (.agg [.str, .str, .str, .int .i64, .int .i64, .bool]) ys, .bool z, .int .i64 i], [] =>
    .gd (cnt xs.length i xs.length && Nat.beq xs.length ys.length) (sT (difS xs ys) xs.length (fun q => .leaf (.ret, [.slv sE xs, .slv sE ys, .bool false, .int .i64 (q : Nat)], [])) (.leaf (.exit 0, [.slv sE xs, .slv sE ys, .bool z, .int .i64 xs.length], [])) i.toNat)
  | _, _ => .no
def l11 : Ev.Loop := ⟨{ len := 26, slots := [0, 1, 4, 5] }, ofL L11⟩
def μ11 (vs : List AV) (_ : List (Option Row)) : Nat := match vs with
  | [.slv _ es, _, _, .int _ i] => ((es.length : Int) - i).toNat
  | _ => 0
theorem loop11 : LoopOK Try.prog G1 [(4, l11)] b11 l11 := by
  refine loopT g1.natOK rfl (KOK.nil (by kernel_rfl)) μ11 (fun ρ vs rs k r h => ?_)
  unfold L11 at h
  split at h
  · rename_i xs ys z i
    obtain ⟨hc, hk⟩ := gd_some h
    simp only [Bool.and_eq_true] at hc
    obtain ⟨hc, hp⟩ := hc
    have hp' : xs.length = ys.length := Nat.eq_of_beq_eq_true hp
    obtain ⟨_, hs, j, rfl, hj⟩ := cnt_spec hc
    rw [Int.toNat_natCast] at hk
    refine Eq.trans (b := bif decide ((↑j : Int) < (↑xs.length : Int)) then bif inb (↑j : Int) xs.length then bif inb (↑j : Int) ys.length then bif !((hOf (xs.getD j AV.unk)) == (hOf (ys.getD j AV.unk)) && ((fOf (xs.getD j AV.unk)) == (fOf (ys.getD j AV.unk)) && ((tOf (xs.getD j AV.unk)) == (tOf (ys.getD j AV.unk)) && ((aOf (xs.getD j AV.unk)) == (aOf (ys.getD j AV.unk)) && ((lOf (xs.getD j AV.unk)) == (lOf (ys.getD j AV.unk)) && ((knOf (xs.getD j AV.unk)) == (knOf (ys.getD j AV.unk)) && true)))))) then k Ex.ret [AV.slv (Sh.agg [Sh.str, Sh.str, Sh.str, Sh.int IntKind.i64, Sh.int IntKind.i64, Sh.bool]) xs, AV.slv (Sh.agg [Sh.str, Sh.str, Sh.str, Sh.int IntKind.i64, Sh.int IntKind.i64, Sh.bool]) ys, AV.bool false, AV.int IntKind.i64 (↑j : Int)] [] else bif decide (((↑xs.length : Int) - IntKind.i64.wrap ((↑j : Int) + (1 : Int))).toNat < ((↑xs.length : Int) - (↑j : Int)).toNat) then bif cnt (↑xs.length : Int) (IntKind.i64.wrap ((↑j : Int) + (1 : Int))) xs.length && xs.length.beq ys.length then bif (findN (difS xs ys) xs.length (IntKind.i64.wrap ((↑j : Int) + (1 : Int))).toNat).isSome then k Ex.ret [AV.slv (Sh.agg [Sh.str, Sh.str, Sh.str, Sh.int IntKind.i64, Sh.int IntKind.i64, Sh.bool]) xs, AV.slv (Sh.agg [Sh.str, Sh.str, Sh.str, Sh.int IntKind.i64, Sh.int IntKind.i64, Sh.bool]) ys, AV.bool false, AV.int IntKind.i64 (↑((findN (difS xs ys) xs.length (IntKind.i64.wrap ((↑j : Int) + (1 : Int))).toNat).getD (0 : Nat)) : Int)] [] else k (Ex.exit (0 : Nat)) [AV.slv (Sh.agg [Sh.str, Sh.str, Sh.str, Sh.int IntKind.i64, Sh.int IntKind.i64, Sh.bool]) xs, AV.slv (Sh.agg [Sh.str, Sh.str, Sh.str, Sh.int IntKind.i64, Sh.int IntKind.i64, Sh.bool]) ys, AV.bool z, AV.int IntKind.i64 (↑xs.length : Int)] [] else none else none else none else none else k (Ex.exit (0 : Nat)) [AV.slv (Sh.agg [Sh.str, Sh.str, Sh.str, Sh.int IntKind.i64, Sh.int IntKind.i64, Sh.bool]) xs, AV.slv (Sh.agg [Sh.str, Sh.str, Sh.str, Sh.int IntKind.i64, Sh.int IntKind.i64, Sh.bool]) ys, AV.bool z, AV.int IntKind.i64 (↑j : Int)] []) (by kernel_rfl) ?_
    rw [← hk]
    by_cases hlt : j < xs.length
    · obtain ⟨e1, e2, e3, e4, e5⟩ := cnt_facts hlt hs
      rw [sT_step _ _ _ _ _ hlt]
      have e6 : inb (j : Int) ys.length = true := hp' ▸ e2
      simp only [e1, e2, e3, e4, e5, e6, hp, cond_true, Int.toNat_natCast, Bool.and_self]
      rfl
    · obtain rfl : j = xs.length := by omega
      rw [decide_eq_false (by omega), sT_end]
      rfl
  · cases h
def same (xs ys : List AV) : Bool := Nat.beq xs.length ys.length && !(findN (difS xs ys) xs.length 0).isSome
def F11 : List AV → Tr AV
  | [.slv (.agg [.str, .str, .str, .int .i64, .int .i64, .bool]) xs, .slv (.agg [.str, .str, .str, .int .i64, .int .i64, .bool]) ys] => .gd (small xs.length) (.leaf (.bool (same xs ys)))
  | _ => .no
theorem ok11 : SumOK Try.prog 11 (ofT F11) ∧ SNat (ofT F11) := by
  refine fn1 (K := [(4, l11)]) (b := b11) (l := l11) g1 Try.func11 (by kernel_rfl) (by kernel_rfl) loop11 fun ρ avs k r h => ?_
  unfold F11 at h
  split at h
  · rename_i xs ys
    obtain ⟨hc, hk⟩ := gd_some h
    refine Eq.trans (b := bif (↑xs.length : Int) != (↑ys.length : Int) then k (AV.bool false) else bif cnt (↑xs.length : Int) (0 : Int) xs.length && xs.length.beq ys.length then bif (findN (difS xs ys) xs.length (0 : Nat)).isSome then k (AV.bool false) else k (AV.bool true) else none) (by kernel_rfl) ?_
    rw [← hk, cnt_zero hc]
    unfold same
    by_cases hp : xs.length = ys.length
    · have hp2 : Nat.beq ys.length ys.length = true := Nat.beq_refl _
      simp only [hp, hp2, bne_self_eq_false, Bool.true_and, Bool.and_self, cond_true, cond_false]
      show (bif (findN (difS xs ys) ys.length 0).isSome then k (.bool false) else k (.bool true)) = k (.bool (!(findN (difS xs ys) ys.length 0).isSome))
      cases (findN (difS xs ys) ys.length 0).isSome <;> rfl
    · have hp2 : Nat.beq xs.length ys.length = false := by
        cases hb : Nat.beq xs.length ys.length
        · rfl
        · exact absurd (Nat.eq_of_beq_eq_true hb) hp
      have hp3 : ((xs.length : Int) != (ys.length : Int)) = true := by simp; omega
      rw [hp2, hp3]
      rfl
  · cases h
theorem same_self (es : List AV) : same es es = true := by
  unfold same
  rw [Nat.beq_refl, findN_of_none fun i _ _ => by simp [difS, difE]]
  rfl
end Go.Proofs.Ytbkokbmodpkamaa
