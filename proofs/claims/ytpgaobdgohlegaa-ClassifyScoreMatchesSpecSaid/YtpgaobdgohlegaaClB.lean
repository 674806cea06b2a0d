/-
  The classifier: the search, slices.Clone, Insert, DeleteFunc, one of two numbers, equality; a list of at most one number is sorted.
-/
import Derived.Test.YtpgaobdgohlegaaClA
namespace Go.Proofs.Ytpgaobdgohlegaa
open Go.Ev

def eT (e : AV) : AV := .agg [.str (xOf e), .int .i64 (gOf e), .int .i64 (jOf e)]
def tk (s : List UInt8) (g j : Int) : AV := .agg [.str s, .int .i64 g, .int .i64 j]
theorem byT : Try.prog.bytesOf 46 ≤ 1000 := of_decide_eq_true (by kernel_rfl)
theorem can_of {e : AV} (h : hasSh sK e = true) : eT e = e := by
  obtain ⟨cs, rfl, h1⟩ := has_agg h
  obtain ⟨c1, cs, rfl, a1, h1⟩ := hass_cons h1
  obtain ⟨c2, cs, rfl, a2, h1⟩ := hass_cons h1
  obtain ⟨c3, cs, rfl, a3, h1⟩ := hass_cons h1
  obtain rfl := hass_nil h1
  obtain ⟨x1, rfl⟩ := has_str a1
  obtain ⟨x2, rfl⟩ := has_int a2
  obtain ⟨x3, rfl⟩ := has_int a3
  rfl
/-! Search -/
noncomputable def G48 : Env := { pure := [(48, Fcmp)] }
theorem g48 : GOK Try.prog G48 := GOK.also g0 (cmp_ok Try.func48 (by kernel_rfl) (by kernel_rfl) (by kernel_rfl) (by kernel_rfl))
noncomputable def G44 : Env := { pure := [(44, evF Try.prog G48 [] Try.f44)] }
theorem g44 : GOK Try.prog G44 := GOK.also g0 (inl g48 Try.func44 (by kernel_rfl))
noncomputable def G39 : Env := { pure := [(39, evF Try.prog G44 [] Try.f39)] }
theorem g39 : GOK Try.prog G39 := GOK.also g0 (inl g44 Try.func39 (by kernel_rfl))
noncomputable def G38 : Env := { pure := [(38, evF Try.prog G39 [] Try.f38)] }
theorem g38 : GOK Try.prog G38 := GOK.also g0 (inl g39 Try.func38 (by kernel_rfl))
noncomputable def b37 : Code := ((Try.f37.body.map loopsOf).getD []).headD .skip
def ltN (s : List UInt8) (es : List AV) (i : Nat) : Bool := decide (cmpS (xOf (es.getD i .unk)) s < 0)
def L37 : List AV → List (Option Row) → Tr LOut
  | [.slv (.agg [.str, .int .i64, .int .i64]) es, .str s, .fn 38 [], .int .i64 z, .bool y, .int .i64 n, .int .i64 i, .int .i64 j], [] =>
    .gd (decide (0 ≤ i) && (decide (i ≤ j) && (decide (j ≤ es.length) && decide (es.length ≤ 1000000)))) (.leaf (.exit 0, [.slv sK es, .str s, .fn 38 [], .int .i64 z, .bool y, .int .i64 n, .int .i64 (bs (ltN s es) (j.toNat - i.toNat) i.toNat j.toNat : Nat), .int .i64 (bs (ltN s es) (j.toNat - i.toNat) i.toNat j.toNat : Nat)], []))
  | _, _ => .no
def l37 : Ev.Loop := ⟨{ len := 49, slots := [0, 1, 2, 6, 7, 8, 9, 10] }, ofL L37⟩
def μ37 (vs : List AV) (_ : List (Option Row)) : Nat := match vs with
  | [_, _, _, _, _, _, .int _ i, .int _ j] => (j - i).toNat
  | _ => 0
theorem loop37 : LoopOK Try.prog G38 [(3, l37)] b37 l37 := by
  refine loopT g38.natOK rfl (KOK.nil (by kernel_rfl)) μ37 (fun ρ vs rs k r h => ?_)
  unfold L37 at h
  split at h
  · rename_i es s z y n i' j'
    obtain ⟨hc, hk⟩ := gd_some h
    simp only [Bool.and_eq_true, decide_eq_true_eq] at hc
    obtain ⟨c1, c2, c3, c4⟩ := hc
    obtain ⟨i, rfl⟩ : ∃ i : Nat, i' = i := ⟨i'.toNat, by omega⟩
    obtain ⟨j, rfl⟩ : ∃ j : Nat, j' = j := ⟨j'.toNat, by omega⟩
    simp only [Int.toNat_natCast] at hk
    refine Eq.trans (b := bif decide ((↑i : Int) < (↑j : Int)) then bif inb (IntKind.i64.wrap ((IntKind.u64.wrap (IntKind.i64.wrap ((↑i : Int) + (↑j : Int)))).fdiv ((2 : Int) ^ min (Int.toNat (1 : Int)) IntKind.u64.bits))) es.length then bif decide (cmpS (xOf (es.getD (IntKind.i64.wrap ((IntKind.u64.wrap (IntKind.i64.wrap ((↑i : Int) + (↑j : Int)))).fdiv ((2 : Int) ^ min (Int.toNat (1 : Int)) IntKind.u64.bits))).toNat AV.unk)) s < (0 : Int)) then bif decide (((↑j : Int) - IntKind.i64.wrap (IntKind.i64.wrap ((IntKind.u64.wrap (IntKind.i64.wrap ((↑i : Int) + (↑j : Int)))).fdiv ((2 : Int) ^ min (Int.toNat (1 : Int)) IntKind.u64.bits)) + (1 : Int))).toNat < ((↑j : Int) - (↑i : Int)).toNat) then bif decide ((0 : Int) ≤ IntKind.i64.wrap (IntKind.i64.wrap ((IntKind.u64.wrap (IntKind.i64.wrap ((↑i : Int) + (↑j : Int)))).fdiv ((2 : Int) ^ min (Int.toNat (1 : Int)) IntKind.u64.bits)) + (1 : Int))) && (decide (IntKind.i64.wrap (IntKind.i64.wrap ((IntKind.u64.wrap (IntKind.i64.wrap ((↑i : Int) + (↑j : Int)))).fdiv ((2 : Int) ^ min (Int.toNat (1 : Int)) IntKind.u64.bits)) + (1 : Int)) ≤ (↑j : Int)) && (decide ((↑j : Int) ≤ (↑es.length : Int)) && decide (es.length ≤ (1000000 : Nat)))) then k (Ex.exit (0 : Nat)) [AV.slv (Sh.agg [Sh.str, Sh.int IntKind.i64, Sh.int IntKind.i64]) es, AV.str s, AV.fn (38 : Nat) [], AV.int IntKind.i64 z, AV.bool y, AV.int IntKind.i64 n, AV.int IntKind.i64 (↑(bs (ltN s es) (j - (IntKind.i64.wrap (IntKind.i64.wrap ((IntKind.u64.wrap (IntKind.i64.wrap ((↑i : Int) + (↑j : Int)))).fdiv ((2 : Int) ^ min (Int.toNat (1 : Int)) IntKind.u64.bits)) + (1 : Int))).toNat) (IntKind.i64.wrap (IntKind.i64.wrap ((IntKind.u64.wrap (IntKind.i64.wrap ((↑i : Int) + (↑j : Int)))).fdiv ((2 : Int) ^ min (Int.toNat (1 : Int)) IntKind.u64.bits)) + (1 : Int))).toNat j) : Int), AV.int IntKind.i64 (↑(bs (ltN s es) (j - (IntKind.i64.wrap (IntKind.i64.wrap ((IntKind.u64.wrap (IntKind.i64.wrap ((↑i : Int) + (↑j : Int)))).fdiv ((2 : Int) ^ min (Int.toNat (1 : Int)) IntKind.u64.bits)) + (1 : Int))).toNat) (IntKind.i64.wrap (IntKind.i64.wrap ((IntKind.u64.wrap (IntKind.i64.wrap ((↑i : Int) + (↑j : Int)))).fdiv ((2 : Int) ^ min (Int.toNat (1 : Int)) IntKind.u64.bits)) + (1 : Int))).toNat j) : Int)] [] else none else none else bif decide ((IntKind.i64.wrap ((IntKind.u64.wrap (IntKind.i64.wrap ((↑i : Int) + (↑j : Int)))).fdiv ((2 : Int) ^ min (Int.toNat (1 : Int)) IntKind.u64.bits)) - (↑i : Int)).toNat < ((↑j : Int) - (↑i : Int)).toNat) then bif decide ((0 : Int) ≤ (↑i : Int)) && (decide ((↑i : Int) ≤ IntKind.i64.wrap ((IntKind.u64.wrap (IntKind.i64.wrap ((↑i : Int) + (↑j : Int)))).fdiv ((2 : Int) ^ min (Int.toNat (1 : Int)) IntKind.u64.bits))) && (decide (IntKind.i64.wrap ((IntKind.u64.wrap (IntKind.i64.wrap ((↑i : Int) + (↑j : Int)))).fdiv ((2 : Int) ^ min (Int.toNat (1 : Int)) IntKind.u64.bits)) ≤ (↑es.length : Int)) && decide (es.length ≤ (1000000 : Nat)))) then k (Ex.exit (0 : Nat)) [AV.slv (Sh.agg [Sh.str, Sh.int IntKind.i64, Sh.int IntKind.i64]) es, AV.str s, AV.fn (38 : Nat) [], AV.int IntKind.i64 z, AV.bool y, AV.int IntKind.i64 n, AV.int IntKind.i64 (↑(bs (ltN s es) ((IntKind.i64.wrap ((IntKind.u64.wrap (IntKind.i64.wrap ((↑i : Int) + (↑j : Int)))).fdiv ((2 : Int) ^ min (Int.toNat (1 : Int)) IntKind.u64.bits))).toNat - i) i (IntKind.i64.wrap ((IntKind.u64.wrap (IntKind.i64.wrap ((↑i : Int) + (↑j : Int)))).fdiv ((2 : Int) ^ min (Int.toNat (1 : Int)) IntKind.u64.bits))).toNat) : Int), AV.int IntKind.i64 (↑(bs (ltN s es) ((IntKind.i64.wrap ((IntKind.u64.wrap (IntKind.i64.wrap ((↑i : Int) + (↑j : Int)))).fdiv ((2 : Int) ^ min (Int.toNat (1 : Int)) IntKind.u64.bits))).toNat - i) i (IntKind.i64.wrap ((IntKind.u64.wrap (IntKind.i64.wrap ((↑i : Int) + (↑j : Int)))).fdiv ((2 : Int) ^ min (Int.toNat (1 : Int)) IntKind.u64.bits))).toNat) : Int)] [] else none else none else none else k (Ex.exit (0 : Nat)) [AV.slv (Sh.agg [Sh.str, Sh.int IntKind.i64, Sh.int IntKind.i64]) es, AV.str s, AV.fn (38 : Nat) [], AV.int IntKind.i64 z, AV.bool y, AV.int IntKind.i64 n, AV.int IntKind.i64 (↑i : Int), AV.int IntKind.i64 (↑j : Int)] []) (by kernel_rfl) ?_
    rw [← hk]
    by_cases hlt : i < j
    · have hm := mid_eq i j (by omega)
      rw [bs_step _ i j hlt, hm]
      have hm1 : i ≤ (i + j) / 2 ∧ (i + j) / 2 < j := by omega
      generalize (i + j) / 2 = m at hm1
      have e1 : IntKind.i64.wrap ((m : Int) + 1) = ((m + 1 : Nat) : Int) := by rw [wrap_mid _ (by omega) (by omega)]; omega
      rw [e1]
      simp only [Int.toNat_natCast]
      refine Eq.trans (cond_t (by first | exact decide_eq_true (by omega) | exact inb_true (by omega) (by omega) | (simp only [Bool.and_eq_true, decide_eq_true_eq]; omega))) ?_
      refine Eq.trans (cond_t (by first | exact decide_eq_true (by omega) | exact inb_true (by omega) (by omega) | (simp only [Bool.and_eq_true, decide_eq_true_eq]; omega))) ?_
      show (bif ltN s es m then _ else _) = _
      cases ltN s es m
      · simp only [cond_false]
        refine Eq.trans (cond_t (by first | exact decide_eq_true (by omega) | exact inb_true (by omega) (by omega) | (simp only [Bool.and_eq_true, decide_eq_true_eq]; omega))) ?_
        refine Eq.trans (cond_t (by first | exact decide_eq_true (by omega) | exact inb_true (by omega) (by omega) | (simp only [Bool.and_eq_true, decide_eq_true_eq]; omega))) ?_
        rfl
      · simp only [cond_true]
        refine Eq.trans (cond_t (by first | exact decide_eq_true (by omega) | exact inb_true (by omega) (by omega) | (simp only [Bool.and_eq_true, decide_eq_true_eq]; omega))) ?_
        refine Eq.trans (cond_t (by first | exact decide_eq_true (by omega) | exact inb_true (by omega) (by omega) | (simp only [Bool.and_eq_true, decide_eq_true_eq]; omega))) ?_
        rfl
    · obtain rfl : i = j := by omega
      rw [decide_eq_false (by omega), show i - i = 0 from by omega]
      rfl
  · cases h
def atK (s : List UInt8) (es : List AV) : Nat := bs (ltN s es) es.length 0 es.length
def isK (s : List UInt8) (es : List AV) : Bool := decide (atK s es < es.length) && xOf (es.getD (atK s es) .unk) == s
def F37 : List AV → Tr AV
  | [.slv (.agg [.str, .int .i64, .int .i64]) es, .str s, .fn 38 []] => .gd (decide (es.length ≤ 1000000)) (.leaf (.tup [.int .i64 (atK s es : Nat), .bool (isK s es)]))
  | _ => .no
theorem ok37 : SumOK Try.prog 37 (ofT F37) ∧ SNat (ofT F37) := by
  refine fn1 (K := [(3, l37)]) (b := b37) (l := l37) g38 Try.func37 (by kernel_rfl) (by kernel_rfl) loop37 fun ρ avs k r h => ?_
  unfold F37 at h
  split at h
  · rename_i es s
    obtain ⟨hc, hk⟩ := gd_some h
    have hc' := of_decide_eq_true hc
    refine Eq.trans (b := bif decide ((0 : Int) ≤ (0 : Int)) && (decide ((0 : Int) ≤ (↑es.length : Int)) && (decide ((↑es.length : Int) ≤ (↑es.length : Int)) && decide (es.length ≤ (1000000 : Nat)))) then bif decide ((↑(bs (ltN s es) ((↑es.length : Int).toNat - Int.toNat (0 : Int)) (0 : Nat) (↑es.length : Int).toNat) : Int) < (↑es.length : Int)) then bif inb (↑(bs (ltN s es) ((↑es.length : Int).toNat - Int.toNat (0 : Int)) (0 : Nat) (↑es.length : Int).toNat) : Int) es.length then k (AV.tup [AV.int IntKind.i64 (↑(bs (ltN s es) ((↑es.length : Int).toNat - Int.toNat (0 : Int)) (0 : Nat) (↑es.length : Int).toNat) : Int), AV.bool (cmpS (xOf (es.getD (↑(bs (ltN s es) ((↑es.length : Int).toNat - Int.toNat (0 : Int)) (0 : Nat) (↑es.length : Int).toNat) : Int).toNat AV.unk)) s == (0 : Int))]) else none else k (AV.tup [AV.int IntKind.i64 (↑(bs (ltN s es) ((↑es.length : Int).toNat - Int.toNat (0 : Int)) (0 : Nat) (↑es.length : Int).toNat) : Int), AV.bool false]) else none) (by kernel_rfl) ?_
    rw [← hk]
    refine Eq.trans (cond_t (by first | exact decide_eq_true (by omega) | exact inb_true (by omega) (by omega) | (simp only [Bool.and_eq_true, decide_eq_true_eq]; omega))) ?_
    have hle : atK s es ≤ es.length := (bs_le (ltN s es) es.length 0 es.length (Nat.zero_le _)).1
    show (fun m : Nat => (bif decide ((m : Int) < es.length) then (bif inb m es.length then k (.tup [.int .i64 m, .bool (cmpS (xOf (es.getD m .unk)) s == 0)]) else none) else k (.tup [.int .i64 m, .bool false]))) (atK s es) = k (.tup [.int .i64 (atK s es : Nat), .bool (isK s es)])
    unfold isK
    generalize atK s es = m at hle
    dsimp only
    by_cases hlt : m < es.length
    · rw [decide_eq_true (by omega : (m : Int) < es.length), decide_eq_true hlt, inb_true (by omega) (by omega)]
      simp only [cond_true, Bool.true_and]
      rw [← cmpS_zero]
    · rw [decide_eq_false (by omega : ¬ (m : Int) < es.length), decide_eq_false hlt]
      rfl
  · cases h
noncomputable def G37 : Env := { pure := [(37, ofT F37)] }
theorem g37 : GOK Try.prog G37 := GOK.also g0 ok37
def F22 : List AV → Tr AV
  | [.slv (.agg [.str, .int .i64, .int .i64]) es, .str s] => .gd (decide (es.length ≤ 1000000)) (.leaf (.tup [.int .i64 (atK s es : Nat), .bool (isK s es)]))
  | _ => .no
theorem ok22 : SumOK Try.prog 22 (ofT F22) ∧ SNat (ofT F22) := by
  refine fn0 g37 Try.func22 (by kernel_rfl) fun ρ avs k r h => ?_
  unfold F22 at h
  split at h
  · rename_i es s
    obtain ⟨hc, hk⟩ := gd_some h
    refine Eq.trans (b := bif decide (es.length ≤ (1000000 : Nat)) then k (AV.tup [AV.int IntKind.i64 (↑(atK s es) : Int), AV.bool (isK s es)]) else none) (by kernel_rfl) ?_
    rw [← hk, hc]
    rfl
  · cases h
/-! IndexFunc, DeleteFunc -/
def isZ (e : AV) : Bool := IntKind.i64.wrap (gOf e + jOf e) == 0
def zN (es : List AV) (i : Nat) : Bool := isZ (es.getD i .unk)
noncomputable def G33 : Env := { pure := [(33, evF Try.prog G0 [] Try.f33)] }
theorem g33 : GOK Try.prog G33 := GOK.also g0 (inl g0 Try.func33 (by kernel_rfl))
noncomputable def b43 : Code := ((Try.f43.body.map loopsOf).getD []).headD .skip
def L43 : List AV → List (Option Row) → Tr LOut
  | [.slv (.agg [.str, .int .i64, .int .i64]) es, .fn 33 [], .int .i64 z, .int .i64 n, .int .i64 i], [] =>
    .gd (cnt n i es.length) (sT (zN es) es.length (fun q => .leaf (.ret, [.slv sK es, .fn 33 [], .int .i64 (q : Nat), .int .i64 n, .int .i64 (q : Nat)], [])) (.leaf (.exit 0, [.slv sK es, .fn 33 [], .int .i64 z, .int .i64 n, .int .i64 es.length], [])) i.toNat)
  | _, _ => .no
def l43 : Ev.Loop := ⟨{ len := 19, slots := [0, 1, 4, 7, 8] }, ofL L43⟩
theorem loop43 : LoopOK Try.prog G33 [(2, l43)] b43 l43 := by
  refine loopT g33.natOK rfl (KOK.nil (by kernel_rfl)) μ18 (fun ρ vs rs k r h => ?_)
  unfold L43 at h
  split at h
  · rename_i es z n i
    obtain ⟨hc, hk⟩ := gd_some h
    obtain ⟨rfl, hs, j, rfl, hj⟩ := cnt_spec hc
    rw [Int.toNat_natCast] at hk
    refine Eq.trans (b := bif decide ((↑j : Int) < (↑es.length : Int)) then bif inb (↑j : Int) es.length then bif IntKind.i64.wrap ((gOf (es.getD j AV.unk)) + (jOf (es.getD j AV.unk))) == (0 : Int) then k Ex.ret [AV.slv (Sh.agg [Sh.str, Sh.int IntKind.i64, Sh.int IntKind.i64]) es, AV.fn (33 : Nat) [], AV.int IntKind.i64 (↑j : Int), AV.int IntKind.i64 (↑es.length : Int), AV.int IntKind.i64 (↑j : Int)] [] else bif decide (((↑es.length : Int) - IntKind.i64.wrap ((↑j : Int) + (1 : Int))).toNat < ((↑es.length : Int) - (↑j : Int)).toNat) then bif cnt (↑es.length : Int) (IntKind.i64.wrap ((↑j : Int) + (1 : Int))) es.length then bif (findN (zN es) es.length (IntKind.i64.wrap ((↑j : Int) + (1 : Int))).toNat).isSome then k Ex.ret [AV.slv (Sh.agg [Sh.str, Sh.int IntKind.i64, Sh.int IntKind.i64]) es, AV.fn (33 : Nat) [], AV.int IntKind.i64 (↑((findN (zN es) es.length (IntKind.i64.wrap ((↑j : Int) + (1 : Int))).toNat).getD (0 : Nat)) : Int), AV.int IntKind.i64 (↑es.length : Int), AV.int IntKind.i64 (↑((findN (zN es) es.length (IntKind.i64.wrap ((↑j : Int) + (1 : Int))).toNat).getD (0 : Nat)) : Int)] [] else k (Ex.exit (0 : Nat)) [AV.slv (Sh.agg [Sh.str, Sh.int IntKind.i64, Sh.int IntKind.i64]) es, AV.fn (33 : Nat) [], AV.int IntKind.i64 z, AV.int IntKind.i64 (↑es.length : Int), AV.int IntKind.i64 (↑es.length : Int)] [] else none else none else none else k (Ex.exit (0 : Nat)) [AV.slv (Sh.agg [Sh.str, Sh.int IntKind.i64, Sh.int IntKind.i64]) es, AV.fn (33 : Nat) [], AV.int IntKind.i64 z, AV.int IntKind.i64 (↑es.length : Int), AV.int IntKind.i64 (↑j : Int)] []) (by kernel_rfl) ?_
    rw [← hk]
    by_cases hlt : j < es.length
    · obtain ⟨e1, e2, e3, e4, e5⟩ := cnt_facts hlt hs
      rw [sT_step _ _ _ _ _ hlt]
      simp only [e1, e2, e3, e4, e5, cond_true, Int.toNat_natCast]
      rfl
    · obtain rfl : j = es.length := by omega
      rw [decide_eq_false (by omega), sT_end]
      rfl
  · cases h
def F43 : List AV → Tr AV
  | [.slv (.agg [.str, .int .i64, .int .i64]) es, .fn 33 []] => .gd (small es.length) (.leaf (.int .i64 (idxZ (findN (zN es) es.length 0))))
  | _ => .no
theorem idxZ_br {α : Type} (o : Option Nat) (k : AV → α) : (bif o.isSome then k (.int .i64 ((o.getD 0 : Nat) : Int)) else k (.int .i64 (-1))) = k (.int .i64 (idxZ o)) := by cases o <;> rfl
theorem ok43 : SumOK Try.prog 43 (ofT F43) ∧ SNat (ofT F43) := by
  refine fn1 (K := [(2, l43)]) (b := b43) (l := l43) g33 Try.func43 (by kernel_rfl) (by kernel_rfl) loop43 fun ρ avs k r h => ?_
  unfold F43 at h
  split at h
  · rename_i es
    obtain ⟨hc, hk⟩ := gd_some h
    refine Eq.trans (b := bif cnt (↑es.length : Int) (0 : Int) es.length then bif (findN (zN es) es.length (0 : Nat)).isSome then k (AV.int IntKind.i64 (↑((findN (zN es) es.length (0 : Nat)).getD (0 : Nat)) : Int)) else k (AV.int IntKind.i64 (-1 : Int)) else none) (by kernel_rfl) ?_
    rw [← hk, cnt_zero hc]
    exact idxZ_br _ k
  · cases h
noncomputable def G32 : Env := { pure := (43, ofT F43) :: G33.pure }
theorem g32 : GOK Try.prog G32 := GOK.also g33 ok43
noncomputable def b32 : Code := ((Try.f32.body.map loopsOf).getD []).headD .skip
def L32 : List AV → List (Option Row) → Tr LOut
  | [.own p, .fn 33 [], .int .i64 i, .int .i64 j], [some (.arr false (.agg [.str, .int .i64, .int .i64]) e es sp)] =>
    .gd (Nat.beq p PID && decide (0 ≤ i ∧ i < j ∧ j ≤ es.length ∧ es.length ≤ 1000000))
      (.leaf (.exit 0, [.own PID, .fn 33 [], .int .i64 (delN isZ eT (es.length - j.toNat) es i.toNat j.toNat).2, .int .i64 es.length], [some (.arr false sK e (delN isZ eT (es.length - j.toNat) es i.toNat j.toNat).1 sp)]))
  | _, _ => .no
def l32 : Ev.Loop := ⟨{ len := 42, slots := [0, 1, 5, 6], rows := [PID] }, ofL L32⟩
def μ32 (vs : List AV) (rs : List (Option Row)) : Nat := match vs, rs with
  | [_, _, _, .int _ j], [some (.arr _ _ _ es _)] => ((es.length : Int) - j).toNat
  | _, _ => 0
theorem loop32 : LoopOK Try.prog G32 [(5, l32)] b32 l32 := by
  refine loopT g32.natOK rfl (KOK.nil (by kernel_rfl)) μ32 (fun ρ vs rs k r h => ?_)
  unfold L32 at h
  split at h
  · rename_i p i' j' e es sp
    obtain ⟨hc, hk⟩ := gd_some h
    simp only [Bool.and_eq_true] at hc
    obtain ⟨c1, c3⟩ := hc
    obtain ⟨c3, c4, c5, c6⟩ := of_decide_eq_true c3
    obtain rfl := Nat.eq_of_beq_eq_true c1
    obtain ⟨i, rfl⟩ : ∃ i : Nat, i' = i := ⟨i'.toNat, by omega⟩
    obtain ⟨j, rfl⟩ : ∃ j : Nat, j' = j := ⟨j'.toNat, by omega⟩
    simp only [Int.toNat_natCast] at hk
    refine Eq.trans (b := bif decide ((↑j : Int) < (↑es.length : Int)) then bif inb (↑j : Int) es.length then bif decide (j < es.length) then bif !IntKind.i64.wrap ((gOf (es.getD j AV.unk)) + (jOf (es.getD j AV.unk))) == (0 : Int) then bif inb (↑i : Int) es.length then bif decide (i < es.length) then bif decide (((↑(es.set i (mkAV (Sh.agg [Sh.str, Sh.int IntKind.i64, Sh.int IntKind.i64]) [AV.str (xOf (es.getD j AV.unk)), AV.int IntKind.i64 (gOf (es.getD j AV.unk)), AV.int IntKind.i64 (jOf (es.getD j AV.unk))])).length : Int) - IntKind.i64.wrap ((↑j : Int) + (1 : Int))).toNat < ((↑es.length : Int) - (↑j : Int)).toNat) then bif PID.beq PID && decide ((0 : Int) ≤ IntKind.i64.wrap ((↑i : Int) + (1 : Int)) ∧ IntKind.i64.wrap ((↑i : Int) + (1 : Int)) < IntKind.i64.wrap ((↑j : Int) + (1 : Int)) ∧ IntKind.i64.wrap ((↑j : Int) + (1 : Int)) ≤ (↑(es.set i (mkAV (Sh.agg [Sh.str, Sh.int IntKind.i64, Sh.int IntKind.i64]) [AV.str (xOf (es.getD j AV.unk)), AV.int IntKind.i64 (gOf (es.getD j AV.unk)), AV.int IntKind.i64 (jOf (es.getD j AV.unk))])).length : Int) ∧ (es.set i (mkAV (Sh.agg [Sh.str, Sh.int IntKind.i64, Sh.int IntKind.i64]) [AV.str (xOf (es.getD j AV.unk)), AV.int IntKind.i64 (gOf (es.getD j AV.unk)), AV.int IntKind.i64 (jOf (es.getD j AV.unk))])).length ≤ (1000000 : Nat)) then k (Ex.exit (0 : Nat)) [AV.own (1125899906842624 : Nat), AV.fn (33 : Nat) [], AV.int IntKind.i64 (↑(delN isZ eT ((es.set i (mkAV (Sh.agg [Sh.str, Sh.int IntKind.i64, Sh.int IntKind.i64]) [AV.str (xOf (es.getD j AV.unk)), AV.int IntKind.i64 (gOf (es.getD j AV.unk)), AV.int IntKind.i64 (jOf (es.getD j AV.unk))])).length - (IntKind.i64.wrap ((↑j : Int) + (1 : Int))).toNat) (es.set i (mkAV (Sh.agg [Sh.str, Sh.int IntKind.i64, Sh.int IntKind.i64]) [AV.str (xOf (es.getD j AV.unk)), AV.int IntKind.i64 (gOf (es.getD j AV.unk)), AV.int IntKind.i64 (jOf (es.getD j AV.unk))])) (IntKind.i64.wrap ((↑i : Int) + (1 : Int))).toNat (IntKind.i64.wrap ((↑j : Int) + (1 : Int))).toNat).snd : Int), AV.int IntKind.i64 (↑(es.set i (mkAV (Sh.agg [Sh.str, Sh.int IntKind.i64, Sh.int IntKind.i64]) [AV.str (xOf (es.getD j AV.unk)), AV.int IntKind.i64 (gOf (es.getD j AV.unk)), AV.int IntKind.i64 (jOf (es.getD j AV.unk))])).length : Int)] [some (Row.arr false (Sh.agg [Sh.str, Sh.int IntKind.i64, Sh.int IntKind.i64]) e (delN isZ eT ((es.set i (mkAV (Sh.agg [Sh.str, Sh.int IntKind.i64, Sh.int IntKind.i64]) [AV.str (xOf (es.getD j AV.unk)), AV.int IntKind.i64 (gOf (es.getD j AV.unk)), AV.int IntKind.i64 (jOf (es.getD j AV.unk))])).length - (IntKind.i64.wrap ((↑j : Int) + (1 : Int))).toNat) (es.set i (mkAV (Sh.agg [Sh.str, Sh.int IntKind.i64, Sh.int IntKind.i64]) [AV.str (xOf (es.getD j AV.unk)), AV.int IntKind.i64 (gOf (es.getD j AV.unk)), AV.int IntKind.i64 (jOf (es.getD j AV.unk))])) (IntKind.i64.wrap ((↑i : Int) + (1 : Int))).toNat (IntKind.i64.wrap ((↑j : Int) + (1 : Int))).toNat).fst sp)] else none else none else none else none else bif decide (((↑es.length : Int) - IntKind.i64.wrap ((↑j : Int) + (1 : Int))).toNat < ((↑es.length : Int) - (↑j : Int)).toNat) then bif PID.beq PID && decide ((0 : Int) ≤ (↑i : Int) ∧ (↑i : Int) < IntKind.i64.wrap ((↑j : Int) + (1 : Int)) ∧ IntKind.i64.wrap ((↑j : Int) + (1 : Int)) ≤ (↑es.length : Int) ∧ es.length ≤ (1000000 : Nat)) then k (Ex.exit (0 : Nat)) [AV.own (1125899906842624 : Nat), AV.fn (33 : Nat) [], AV.int IntKind.i64 (↑(delN isZ eT (es.length - (IntKind.i64.wrap ((↑j : Int) + (1 : Int))).toNat) es i (IntKind.i64.wrap ((↑j : Int) + (1 : Int))).toNat).snd : Int), AV.int IntKind.i64 (↑es.length : Int)] [some (Row.arr false (Sh.agg [Sh.str, Sh.int IntKind.i64, Sh.int IntKind.i64]) e (delN isZ eT (es.length - (IntKind.i64.wrap ((↑j : Int) + (1 : Int))).toNat) es i (IntKind.i64.wrap ((↑j : Int) + (1 : Int))).toNat).fst sp)] else none else none else none else none else k (Ex.exit (0 : Nat)) [AV.own (1125899906842624 : Nat), AV.fn (33 : Nat) [], AV.int IntKind.i64 (↑i : Int), AV.int IntKind.i64 (↑j : Int)] [some (Row.arr false (Sh.agg [Sh.str, Sh.int IntKind.i64, Sh.int IntKind.i64]) e es sp)]) (by kernel_rfl) ?_
    rw [← hk]
    by_cases hlt : j < es.length
    · have w1 : IntKind.i64.wrap ((j : Int) + 1) = ((j + 1 : Nat) : Int) := by rw [wrap_mid _ (by omega) (by omega)]; omega
      have w2 : IntKind.i64.wrap ((i : Int) + 1) = ((i + 1 : Nat) : Int) := by rw [wrap_mid _ (by omega) (by omega)]; omega
      have hd := delN_succ isZ eT (es.length - (j + 1)) es i j
      rw [show es.length - (j + 1) + 1 = es.length - j from by omega] at hd
      rw [decide_eq_true (by omega : (j : Int) < es.length), inb_true (by omega) (by omega), decide_eq_true hlt, inb_true (by omega : (0 : Int) ≤ i) (by omega : (i : Int) < es.length), decide_eq_true (by omega : i < es.length), w1, w2, hd]
      simp only [cond_true, Int.toNat_natCast, List.length_set]
      show (bif !isZ (es.getD j .unk) then _ else _) = _
      cases isZ (es.getD j .unk)
      · simp only [cond_true, cond_false, Bool.not_false]
        refine Eq.trans (cond_t (decide_eq_true (by omega))) (Eq.trans (cond_t (and_t (Nat.beq_refl _) (decide_eq_true (by omega)))) ?_)
        rfl
      · simp only [cond_true, cond_false, Bool.not_true]
        refine Eq.trans (cond_t (decide_eq_true (by omega))) (Eq.trans (cond_t (and_t (Nat.beq_refl _) (decide_eq_true (by omega)))) ?_)
        rfl
    · obtain rfl : j = es.length := by omega
      rw [decide_eq_false (by omega), show es.length - es.length = 0 from by omega]
      rfl
  · cases h
def F32 : List AV → List Row → Tr XOut
  | [.own p, .fn 33 []], [.arr false (.agg [.str, .int .i64, .int .i64]) 46 es _] =>
    .gd (Nat.beq p PID && (decide (es.length ≤ 1000000) && es.all (hasSh sK))) (.leaf (.own RID, [none], [.arr false sK 46 (es.filter fun x => !isZ x) none]))
  | _, _ => .no
theorem ok32 : XOK Try.prog 32 (ofX F32) ∧ XNat (ofX F32) := by
  refine ⟨xsum1 (K := [(5, l32)]) (H := [(4, 9999, 46)]) (b := b32) (l := l32) g32 Try.func32 (by kernel_rfl) (by kernel_rfl) loop32 fun ρ avs rows k r h => ?_, xnat_ofX _⟩
  change (F32 avs rows).run _ = some r at h
  unfold F32 at h
  split at h
  · rename_i p es csp
    obtain ⟨hc, hk⟩ := gd_some h
    simp only [Bool.and_eq_true] at hc
    obtain ⟨c1, c3, c4⟩ := hc
    have c3 := of_decide_eq_true c3
    have hca : ∀ x ∈ es, eT x = x := fun x hx => can_of (List.all_eq_true.1 c4 x hx)
    obtain rfl := Nat.eq_of_beq_eq_true c1
    refine ⟨by simp, fun rows' hsp => ?_⟩
    obtain ⟨sp, rfl⟩ : ∃ sp, rows' = [.arr false sK 46 es (some sp)] := by
      match rows', hsp with
      | [r1], ⟨⟨sp, h1, _⟩, _⟩ => exact ⟨sp, by rw [h1]⟩
    refine Eq.trans (b := delTree isZ eT (zeroE Try.prog 46) es (findN (zN es) es.length 0) (fun i j => Nat.beq PID PID && decide (0 ≤ i ∧ i < j ∧ j ≤ es.length ∧ es.length ≤ 1000000)) fun l => k (.own RID) [none] [.arr false sK 46 l none]) (by kernel_rfl) ?_
    refine Eq.trans (delTree_eq rfl c3 hca fun i hi => and_t (Nat.beq_refl _) (decide_eq_true (by omega))) ?_
    exact hk
  · cases h
/-! Clone, Insert -/
noncomputable def GF : Env := { pure := [], fork := true }
theorem gf : GOK Try.prog GF := GOK.flags g0
def F30 : List AV → List Row → Tr XOut
  | [.slv (.agg [.str, .int .i64, .int .i64]) es], [] => .gd (decide (es.length ≤ 1000000)) (.leaf (.own RID, [], [.arr false sK 46 es none]))
  | _, _ => .no
theorem ok30 : XOK Try.prog 30 (ofX F30) ∧ XNat (ofX F30) := by
  refine ⟨xsum0 (H := [(2, 9999, 46)]) gf Try.func30 (by kernel_rfl) fun ρ avs rows k r h => ?_, xnat_ofX _⟩
  change (F30 avs rows).run _ = some r at h
  unfold F30 at h
  split at h
  · rename_i es
    obtain ⟨hc, hk⟩ := gd_some h
    have hc' := of_decide_eq_true hc
    refine ⟨by simp, fun rows' hsp => ?_⟩
    obtain rfl : rows' = [] := by cases rows' with | nil => rfl | cons a b => exact hsp.elim
    refine Eq.trans (b := bif es.isEmpty then both (k (AV.own (2251799813685248 : Nat)) [] [Row.arr false (Sh.agg [Sh.str, Sh.int IntKind.i64, Sh.int IntKind.i64]) (46 : Nat) [] none]) (bif roomB es.length (Try.prog.bytesOf (46 : Nat)) then k (AV.own (2251799813685248 : Nat)) [] [Row.arr false (Sh.agg [Sh.str, Sh.int IntKind.i64, Sh.int IntKind.i64]) (46 : Nat) es none] else none) else bif roomB es.length (Try.prog.bytesOf (46 : Nat)) then k (AV.own (2251799813685248 : Nat)) [] [Row.arr false (Sh.agg [Sh.str, Sh.int IntKind.i64, Sh.int IntKind.i64]) (46 : Nat) es none] else none) (by kernel_rfl) ?_
    rw [← hk, roomB_small (by omega) byT]
    cases es with
    | nil => exact both_self _
    | cons x l => rfl
  · cases h
noncomputable def GI : Env := { pure := [], opens := [(41, Fover)], ext := [836] }
theorem gi : GOK Try.prog GI := GOK.flags (Γ := { pure := [], opens := [(41, Fover)] }) (GOK.alsoX g0 (over_ok (tS := 22) (tR := 4) (e0 := 46) (i := (Try.prog.info? 46).getD default) Try.func41 (by kernel_rfl) (by kernel_rfl) (by kernel_rfl) (by kernel_rfl) (by kernel_rfl) (by kernel_rfl)))
def F31 : List AV → List Row → Tr XOut
  | [.own p, .int .i64 i, .own q], [.arr false (.agg [.str, .int .i64, .int .i64]) 46 es none, .arr false (.agg [.str, .int .i64, .int .i64]) 46 [.agg [.str s, .int .i64 g, .int .i64 j]] none] =>
    .gd (Nat.beq p PID && (Nat.beq q (PID + 1) && decide (0 ≤ i ∧ i ≤ es.length ∧ es.length ≤ 100000))) (.leaf (.own RID, [none, none], [.arr false sK 46 (es.take i.toNat ++ tk s g j :: es.drop i.toNat) none]))
  | _, _ => .no
theorem ok31 : XOK Try.prog 31 (ofX F31) ∧ XNat (ofX F31) := by
  refine ⟨xsum0 (H := [(DROP, PID, 0), (DROP, PID + 1, 0)]) gi Try.func31 (by kernel_rfl) fun ρ avs rows k r h => ?_, xnat_ofX _⟩
  change (F31 avs rows).run _ = some r at h
  unfold F31 at h
  split at h
  · rename_i p i' q es s g j
    obtain ⟨hc, hk⟩ := gd_some h
    simp only [Bool.and_eq_true] at hc
    obtain ⟨c1, c2, c3⟩ := hc
    obtain ⟨c3, c4, c5⟩ := of_decide_eq_true c3
    obtain rfl := Nat.eq_of_beq_eq_true c1
    obtain rfl := Nat.eq_of_beq_eq_true c2
    obtain ⟨i, rfl⟩ : ∃ i : Nat, i' = i := ⟨i'.toNat, by omega⟩
    refine ⟨by simp, fun rows' hsp => ?_⟩
    obtain ⟨sp, sp2, rfl⟩ : ∃ sp sp2, rows' = [.arr false sK 46 es (some sp), .arr false sK 46 [.agg [.str s, .int .i64 g, .int .i64 j]] (some sp2)] := by
      match rows', hsp with
      | [r1, r2], ⟨⟨sp, h1, _⟩, ⟨sp2, h2, _⟩, _⟩ => exact ⟨sp, sp2, by rw [h1, h2]⟩
    refine Eq.trans (b := insTree es sp (tk s g j) (zeroE Try.prog 46) i (Try.prog.bytesOf 46) fun l => k (.own RID) [none, none] [.arr false sK 46 l none]) (by kernel_rfl) ?_
    rw [insTree_eq _ (by omega) (by omega) byT, ← hk]
    rfl
  · cases h
/-! side -/
def F28 : List AV → List Row → Tr XOut
  | [.ptr p 0, .ptr q 1, .bool junk], [.box false [.int .i64 g, .int .i64 j, .slv s es]] =>
    .gd (Nat.beq p PID && Nat.beq q PID) (.br junk (.leaf (.ptr PID 1, [some (.box false [.int .i64 g, .int .i64 j, .slv s es])], [])) (.leaf (.ptr PID 0, [some (.box false [.int .i64 g, .int .i64 j, .slv s es])], [])))
  | [.eptr p i 1, .eptr q i' 2, .bool junk], [.arr false s e es none] =>
    .gd (Nat.beq p PID && Nat.beq q PID) (.br junk (.leaf (.eptr PID i' 2, [some (.arr false s e es none)], [])) (.leaf (.eptr PID i 1, [some (.arr false s e es none)], [])))
  | _, _ => .no
theorem ok28 : XOK Try.prog 28 (ofX F28) ∧ XNat (ofX F28) := by
  refine ⟨xsum0 (H := []) g0 Try.func28 (by kernel_rfl) fun ρ avs rows k r h => ?_, xnat_ofX _⟩
  change (F28 avs rows).run _ = some r at h
  unfold F28 at h
  split at h
  · rename_i p q junk g j s es
    obtain ⟨hc, hk⟩ := gd_some h
    simp only [Bool.and_eq_true] at hc
    obtain rfl := Nat.eq_of_beq_eq_true hc.1
    obtain rfl := Nat.eq_of_beq_eq_true hc.2
    refine ⟨by simp, fun rows' hsp => ?_⟩
    obtain rfl : rows' = [.box false [.int .i64 g, .int .i64 j, .slv s es]] := by
      match rows', hsp with
      | [r1], ⟨h1, _⟩ => rw [h1]
    refine Eq.trans (b := bif junk then k (AV.ptr (1125899906842624 : Nat) (1 : Nat)) [some (Row.box false [AV.int IntKind.i64 g, AV.int IntKind.i64 j, AV.slv s es])] [] else k (AV.ptr (1125899906842624 : Nat) (0 : Nat)) [some (Row.box false [AV.int IntKind.i64 g, AV.int IntKind.i64 j, AV.slv s es])] []) (by kernel_rfl) ?_
    rw [← hk]
    cases junk <;> rfl
  · rename_i p i q i' junk s e es
    obtain ⟨hc, hk⟩ := gd_some h
    simp only [Bool.and_eq_true] at hc
    obtain rfl := Nat.eq_of_beq_eq_true hc.1
    obtain rfl := Nat.eq_of_beq_eq_true hc.2
    refine ⟨by simp, fun rows' hsp => ?_⟩
    obtain ⟨sp, rfl⟩ : ∃ sp, rows' = [.arr false s e es (some sp)] := by
      match rows', hsp with
      | [r1], ⟨⟨sp, h1, _⟩, _⟩ => exact ⟨sp, by rw [h1]⟩
    refine Eq.trans (b := bif junk then k (AV.eptr (1125899906842624 : Nat) i' (2 : Nat)) [some (Row.arr false s e es none)] [] else k (AV.eptr (1125899906842624 : Nat) i (1 : Nat)) [some (Row.arr false s e es none)] []) (by kernel_rfl) ?_
    rw [← hk]
    cases junk <;> rfl
  · cases h
/-! SameWords -/
noncomputable def b13 : Code := ((Try.f13.body.map loopsOf).getD []).headD .skip
def difE (x y : AV) : Bool := !(xOf x == xOf y && (gOf x == gOf y && (jOf x == jOf y && true)))
def difS (xs ys : List AV) (i : Nat) : Bool := difE (xs.getD i .unk) (ys.getD i .unk)
def L13 : List AV → List (Option Row) → Tr LOut
  | [.ptr 0 0, .ptr 1 0, .bool z, .int .i64 i], [some (.box false [.int .i64 a, .int .i64 b, .slv (.agg [.str, .int .i64, .int .i64]) xs]), some (.box false [.int .i64 c, .int .i64 d, .slv (.agg [.str, .int .i64, .int .i64]) ys])] =>
    .gd (cnt xs.length i xs.length && Nat.beq xs.length ys.length) (sT (difS xs ys) xs.length (fun q => .leaf (.ret, [.ptr 0 0, .ptr 1 0, .bool false, .int .i64 (q : Nat)], [some (.box false [.int .i64 a, .int .i64 b, .slv sK xs]), some (.box false [.int .i64 c, .int .i64 d, .slv sK ys])])) (.leaf (.exit 0, [.ptr 0 0, .ptr 1 0, .bool z, .int .i64 xs.length], [some (.box false [.int .i64 a, .int .i64 b, .slv sK xs]), some (.box false [.int .i64 c, .int .i64 d, .slv sK ys])])) i.toNat)
  | _, _ => .no
def l13 : Ev.Loop := ⟨{ len := 45, slots := [2, 3, 4, 5], rows := [0, 1] }, ofL L13⟩
def μ13 (vs : List AV) (rs : List (Option Row)) : Nat := match vs, rs with
  | [_, _, _, .int _ i], [some (.box _ [_, _, .slv _ es]), _] => ((es.length : Int) - i).toNat
  | _, _ => 0
theorem loop13 : LoopOK Try.prog G1 [(4, l13)] b13 l13 := by
  refine loopT g1.natOK rfl (KOK.nil (by kernel_rfl)) μ13 (fun ρ vs rs k r h => ?_)
  unfold L13 at h
  split at h
  · rename_i z i a b xs c d ys
    obtain ⟨hc, hk⟩ := gd_some h
    simp only [Bool.and_eq_true] at hc
    obtain ⟨hc, hp⟩ := hc
    have hp' : xs.length = ys.length := Nat.eq_of_beq_eq_true hp
    obtain ⟨_, hs, j, rfl, hj⟩ := cnt_spec hc
    rw [Int.toNat_natCast] at hk
    refine Eq.trans (b := bif decide ((↑j : Int) < (↑xs.length : Int)) then bif inb (↑j : Int) xs.length then bif inb (↑j : Int) ys.length then bif !((xOf (xs.getD j AV.unk)) == (xOf (ys.getD j AV.unk)) && ((gOf (xs.getD j AV.unk)) == (gOf (ys.getD j AV.unk)) && ((jOf (xs.getD j AV.unk)) == (jOf (ys.getD j AV.unk)) && true))) then k Ex.ret [AV.ptr (0 : Nat) (0 : Nat), AV.ptr (1 : Nat) (0 : Nat), AV.bool false, AV.int IntKind.i64 (↑j : Int)] [some (Row.box false [AV.int IntKind.i64 a, AV.int IntKind.i64 b, AV.slv (Sh.agg [Sh.str, Sh.int IntKind.i64, Sh.int IntKind.i64]) xs]), some (Row.box false [AV.int IntKind.i64 c, AV.int IntKind.i64 d, AV.slv (Sh.agg [Sh.str, Sh.int IntKind.i64, Sh.int IntKind.i64]) ys])] else bif decide (((↑xs.length : Int) - IntKind.i64.wrap ((↑j : Int) + (1 : Int))).toNat < ((↑xs.length : Int) - (↑j : Int)).toNat) then bif cnt (↑xs.length : Int) (IntKind.i64.wrap ((↑j : Int) + (1 : Int))) xs.length && xs.length.beq ys.length then bif (findN (difS xs ys) xs.length (IntKind.i64.wrap ((↑j : Int) + (1 : Int))).toNat).isSome then k Ex.ret [AV.ptr (0 : Nat) (0 : Nat), AV.ptr (1 : Nat) (0 : Nat), AV.bool false, AV.int IntKind.i64 (↑((findN (difS xs ys) xs.length (IntKind.i64.wrap ((↑j : Int) + (1 : Int))).toNat).getD (0 : Nat)) : Int)] [some (Row.box false [AV.int IntKind.i64 a, AV.int IntKind.i64 b, AV.slv (Sh.agg [Sh.str, Sh.int IntKind.i64, Sh.int IntKind.i64]) xs]), some (Row.box false [AV.int IntKind.i64 c, AV.int IntKind.i64 d, AV.slv (Sh.agg [Sh.str, Sh.int IntKind.i64, Sh.int IntKind.i64]) ys])] else k (Ex.exit (0 : Nat)) [AV.ptr (0 : Nat) (0 : Nat), AV.ptr (1 : Nat) (0 : Nat), AV.bool z, AV.int IntKind.i64 (↑xs.length : Int)] [some (Row.box false [AV.int IntKind.i64 a, AV.int IntKind.i64 b, AV.slv (Sh.agg [Sh.str, Sh.int IntKind.i64, Sh.int IntKind.i64]) xs]), some (Row.box false [AV.int IntKind.i64 c, AV.int IntKind.i64 d, AV.slv (Sh.agg [Sh.str, Sh.int IntKind.i64, Sh.int IntKind.i64]) ys])] else none else none else none else none else k (Ex.exit (0 : Nat)) [AV.ptr (0 : Nat) (0 : Nat), AV.ptr (1 : Nat) (0 : Nat), AV.bool z, AV.int IntKind.i64 (↑j : Int)] [some (Row.box false [AV.int IntKind.i64 a, AV.int IntKind.i64 b, AV.slv (Sh.agg [Sh.str, Sh.int IntKind.i64, Sh.int IntKind.i64]) xs]), some (Row.box false [AV.int IntKind.i64 c, AV.int IntKind.i64 d, AV.slv (Sh.agg [Sh.str, Sh.int IntKind.i64, Sh.int IntKind.i64]) ys])]) (by kernel_rfl) ?_
    rw [← hk]
    by_cases hlt : j < xs.length
    · obtain ⟨e1, e2, e3, e4, e5⟩ := cnt_facts hlt hs
      rw [sT_step _ _ _ _ _ hlt]
      have e6 : inb (j : Int) ys.length = true := hp' ▸ e2
      simp only [e1, e2, e3, e4, e5, e6, hp, cond_true, Int.toNat_natCast, Bool.and_self]
      rfl
    · obtain rfl : j = xs.length := by omega
      rw [decide_eq_false (by omega), sT_end]
      rfl
  · cases h
def same (a b : Int) (xs : List AV) (c d : Int) (ys : List AV) : Bool := a == c && (b == d && (Nat.beq xs.length ys.length && !(findN (difS xs ys) xs.length 0).isSome))
def F13 : List AV → Tr AV
  | [.agg [.int .i64 a, .int .i64 b, .slv (.agg [.str, .int .i64, .int .i64]) xs], .agg [.int .i64 c, .int .i64 d, .slv (.agg [.str, .int .i64, .int .i64]) ys]] => .gd (small xs.length) (.leaf (.bool (same a b xs c d ys)))
  | _ => .no
theorem ok13 : SumOK Try.prog 13 (ofT F13) ∧ SNat (ofT F13) := by
  refine fn1 (K := [(4, l13)]) (b := b13) (l := l13) g1 Try.func13 (by kernel_rfl) (by kernel_rfl) loop13 fun ρ avs k r h => ?_
  unfold F13 at h
  split at h
  · rename_i a b xs c d ys
    obtain ⟨hc, hk⟩ := gd_some h
    refine Eq.trans (b := bif a != c then k (AV.bool false) else bif b != d then k (AV.bool false) else bif (↑xs.length : Int) != (↑ys.length : Int) then k (AV.bool false) else bif cnt (↑xs.length : Int) (0 : Int) xs.length && xs.length.beq ys.length then bif (findN (difS xs ys) xs.length (0 : Nat)).isSome then k (AV.bool false) else k (AV.bool true) else none) (by kernel_rfl) ?_
    rw [← hk, cnt_zero hc]
    unfold same
    rw [bne, bne]
    cases a == c
    · rfl
    · cases b == d
      · rfl
      · by_cases hp : xs.length = ys.length
        · have hp2 : Nat.beq ys.length ys.length = true := Nat.beq_refl _
          simp only [hp, hp2, bne_self_eq_false, Bool.true_and, Bool.and_self, cond_true, cond_false, Bool.not_true]
          show (bif (findN (difS xs ys) ys.length 0).isSome then k (.bool false) else k (.bool true)) = k (.bool (!(findN (difS xs ys) ys.length 0).isSome))
          cases (findN (difS xs ys) ys.length 0).isSome <;> rfl
        · have hp2 : Nat.beq xs.length ys.length = false := by
            cases hb : Nat.beq xs.length ys.length
            · rfl
            · exact absurd (Nat.eq_of_beq_eq_true hb) hp
          have hp3 : ((xs.length : Int) != (ys.length : Int)) = true := by simp; omega
          rw [hp2, hp3]
          rfl
  · cases h
theorem same_self (a b : Int) (es : List AV) : same a b es a b es = true := by
  unfold same
  rw [Nat.beq_refl, findN_of_none fun i _ _ => by simp [difS, difE]]
  simp
/-! The sort of at most one number -/
theorem loopNo {P : Program} {Γ : Env} {K : List (Nat × Ev.Loop)} {b : Code} {N : Norm} (hN : NatOK Γ) (hfk : Γ.fork = false) (hK : KOK P Γ K b) : LoopOK P Γ K b ⟨N, ofL fun _ _ => .no⟩ := loopT hN hfk hK (fun _ _ => 0) fun _ _ _ _ _ h => by cases h
end Go.Proofs.Ytpgaobdgohlegaa
