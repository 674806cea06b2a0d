/-
  slices.symMergeCmpFunc.
-/
import Derived.Test.YtpgaobdgohlegaaClT
namespace Go.Proofs.Ytpgaobdgohlegaa
open Go.Ev

theorem okL_same {l r : List AV} (h : Same l r) (hl : okL l = true) : okL r = true := List.all_eq_true.2 fun x hx => List.all_eq_true.1 hl x (h.symm.mem hx)
theorem sortAt_same {a b : Nat} {es : List AV} (h : a ≤ b) : Same es (sortAt a b es) := by
  have hp := parts a b es h
  unfold sortAt
  have := ((Same.refl (es.take a)).app (sortS_same ((es.drop a).take (b - a)))).app (Same.refl (es.drop b))
  rw [← hp] at this
  exact this
theorem sortAt_len {a b : Nat} {es : List AV} (h : a ≤ b) : (sortAt a b es).length = es.length := by
  have hp := congrArg List.length (parts a b es h)
  unfold sortAt
  simp only [List.length_append, sortS_len] at hp ⊢
  omega
noncomputable def dnB (a b : Nat) (es : List AV) : Bool := @decide (Dn (seg a b es)) (Classical.propDecidable _)
theorem dnB_of {a b : Nat} {es : List AV} (h : Dn (seg a b es)) : dnB a b es = true := by
  unfold dnB
  exact @decide_eq_true _ (Classical.propDecidable _) h
theorem dnB_to {a b : Nat} {es : List AV} (h : dnB a b es = true) : Dn (seg a b es) := by
  unfold dnB at h
  exact @of_decide_eq_true _ (Classical.propDecidable _) h
noncomputable def FS46 (n : Nat) : List AV → List Row → Tr XOut
  | [.own p, .int .i64 a, .int .i64 m, .int .i64 b, .fn 25 []], [.arr false (.int .i64) e es _] => .gd (Nat.beq p PID && (decide (0 ≤ a ∧ a < m ∧ m < b ∧ b ≤ es.length ∧ es.length ≤ 1000 ∧ b - a ≤ n) && (okL es && (dnB a.toNat m.toNat es && dnB m.toNat b.toNat es)))) (.leaf (.tup [], [some (.arr false (.int .i64) e (sortAt a.toNat b.toNat es) none)], []))
  | _, _ => .no
noncomputable def G46 (n : Nat) : Env := { pure := [(25, ofT F25)], opens := [(46, ofX (FS46 n)), (49, ofX F49)] }
noncomputable def lp46 (i : Nat) : Code := ((Try.f46.body.map loopsOf).getD []).getD i .skip
def A46 : List AV → List (Option Row) → Tr LOut
  | [.own p, .int .i64 a, .int .i64 m, .int .i64 b, .fn 25 [], .int .i64 i, .int .i64 j], [some (.arr false (.int .i64) e es sp)] => .gd (Nat.beq p PID && (decide (0 ≤ a ∧ a < es.length ∧ 0 ≤ i ∧ i ≤ j ∧ j ≤ es.length ∧ es.length ≤ 1000) && okL es)) (.leaf (.exit 0, [.own PID, .int .i64 a, .int .i64 m, .int .i64 b, .fn 25 [], .int .i64 (bs (lP es a.toNat) (j.toNat - i.toNat) i.toNat j.toNat : Nat), .int .i64 (bs (lP es a.toNat) (j.toNat - i.toNat) i.toNat j.toNat : Nat)], [some (.arr false (.int .i64) e es sp)]))
  | _, _ => .no
def a46 : Ev.Loop := ⟨{ len := 220, slots := [0, 1, 2, 3, 4, 10, 11], rows := [PID] }, ofL A46⟩
def B46 : List AV → List (Option Row) → Tr LOut
  | [.own p, .int .i64 i, .int .i64 k], [some (.arr false (.int .i64) e es sp)] => .gd (Nat.beq p PID && (decide (0 ≤ k ∧ k < i ∧ i ≤ es.length ∧ es.length ≤ 1000) && okL es)) (.leaf (.exit 2, [.own PID, .int .i64 i, .int .i64 (i - 1)], [some (.arr false (.int .i64) e (mvR (i - 1 - k).toNat k.toNat es) sp)]))
  | _, _ => .no
def bb46 : Ev.Loop := ⟨{ len := 220, slots := [0, 10, 13], rows := [PID] }, ofL B46⟩
def C46 : List AV → List (Option Row) → Tr LOut
  | [.own p, .int .i64 a, .int .i64 m, .int .i64 b, .fn 25 [], .int .i64 i, .int .i64 j], [some (.arr false (.int .i64) e es sp)] => .gd (Nat.beq p PID && (decide (0 ≤ m ∧ m < es.length ∧ 0 ≤ i ∧ i ≤ j ∧ j ≤ es.length ∧ es.length ≤ 1000) && okL es)) (.leaf (.exit 4, [.own PID, .int .i64 a, .int .i64 m, .int .i64 b, .fn 25 [], .int .i64 (bs (rP es m.toNat) (j.toNat - i.toNat) i.toNat j.toNat : Nat), .int .i64 (bs (rP es m.toNat) (j.toNat - i.toNat) i.toNat j.toNat : Nat)], [some (.arr false (.int .i64) e es sp)]))
  | _, _ => .no
def cc46 : Ev.Loop := ⟨{ len := 220, slots := [0, 1, 2, 3, 4, 14, 15], rows := [PID] }, ofL C46⟩
def D46 : List AV → List (Option Row) → Tr LOut
  | [.own p, .int .i64 i, .int .i64 k], [some (.arr false (.int .i64) e es sp)] => .gd (Nat.beq p PID && (decide (0 ≤ i ∧ i ≤ k ∧ k < es.length ∧ es.length ≤ 1000) && okL es)) (.leaf (.exit 6, [.own PID, .int .i64 i, .int .i64 i], [some (.arr false (.int .i64) e (mvL (k - i).toNat k.toNat es) sp)]))
  | _, _ => .no
def dd46 : Ev.Loop := ⟨{ len := 220, slots := [0, 14, 17], rows := [PID] }, ofL D46⟩
def E46 : List AV → List (Option Row) → Tr LOut
  | [.own p, .int .i64 a, .int .i64 m, .int .i64 b, .fn 25 [], .int .i64 mid, .int .i64 n, .int .i64 i, .int .i64 j, .int .i64 q], [some (.arr false (.int .i64) e es sp)] => .gd (Nat.beq p PID && (decide (0 ≤ i ∧ i ≤ j ∧ j ≤ es.length ∧ es.length ≤ 1000 ∧ j ≤ q + 1 ∧ q < es.length + i ∧ q ≤ 100000 ∧ 0 ≤ q) && okL es)) (.leaf (.exit 8, [.own PID, .int .i64 a, .int .i64 m, .int .i64 b, .fn 25 [], .int .i64 mid, .int .i64 n, .int .i64 (bs (mP es q.toNat) (j.toNat - i.toNat) i.toNat j.toNat : Nat), .int .i64 (bs (mP es q.toNat) (j.toNat - i.toNat) i.toNat j.toNat : Nat), .int .i64 q], [some (.arr false (.int .i64) e es sp)]))
  | _, _ => .no
def ee46 : Ev.Loop := ⟨{ len := 220, slots := [0, 1, 2, 3, 4, 18, 19, 20, 21, 22], rows := [PID] }, ofL E46⟩
def K46 : List (Nat × Ev.Loop) := [(3, a46), (9, bb46), (15, cc46), (21, dd46), (33, ee46)]
def μ46 (vs : List AV) (_ : List (Option Row)) : Nat := match vs with
  | [_, _, _, _, _, .int _ i, .int _ j] => (j - i).toNat
  | [_, .int _ i, .int _ k] => (i - k).toNat + (k - i).toNat
  | [_, _, _, _, _, _, _, .int _ i, .int _ j, _] => (j - i).toNat
  | _ => 0
theorem bs_end (p : Nat → Bool) (i : Nat) : bs p (i - i) i i = i := by rw [Nat.sub_self]; rfl
theorem loopA46 {n : Nat} (g : GOK Try.prog (G46 n)) : LoopOK Try.prog (G46 n) K46 (lp46 0) a46 := by
  refine loopT g.natOK rfl (KOK.nil (by kernel_rfl)) μ46 (fun ρ vs rs k r h => ?_)
  unfold A46 at h
  split at h
  · rename_i p a' m b i' j' e es sp
    obtain ⟨hc, hk⟩ := gd_some h
    clear h
    simp only [Bool.and_eq_true] at hc
    obtain ⟨hp, hc, hok⟩ := hc
    obtain rfl := Nat.eq_of_beq_eq_true hp
    clear hp
    obtain ⟨c1, c2, c3, c4, c5, c6⟩ := of_decide_eq_true hc
    obtain ⟨a, rfl⟩ : ∃ a : Nat, a' = a := ⟨a'.toNat, by omega⟩
    obtain ⟨i, rfl⟩ : ∃ a : Nat, i' = a := ⟨i'.toNat, by omega⟩
    obtain ⟨j, rfl⟩ : ∃ a : Nat, j' = a := ⟨j'.toNat, by omega⟩
    simp only [Int.toNat_natCast] at hk
    refine Eq.trans (b := bif decide ((↑i : Int) < (↑j : Int)) then bif inb (IntKind.i64.wrap ((IntKind.u64.wrap (IntKind.i64.wrap ((↑i : Int) + (↑j : Int)))).fdiv ((2 : Int) ^ min (Int.toNat (1 : Int)) IntKind.u64.bits))) es.length then bif decide ((IntKind.i64.wrap ((IntKind.u64.wrap (IntKind.i64.wrap ((↑i : Int) + (↑j : Int)))).fdiv ((2 : Int) ^ min (Int.toNat (1 : Int)) IntKind.u64.bits))).toNat < es.length) then bif inb (↑a : Int) es.length then bif decide (a < es.length) then bif inR (iv (es.getD (IntKind.i64.wrap ((IntKind.u64.wrap (IntKind.i64.wrap ((↑i : Int) + (↑j : Int)))).fdiv ((2 : Int) ^ min (Int.toNat (1 : Int)) IntKind.u64.bits))).toNat AV.unk)) (0 : Int) (1000 : Int) && inR (iv (es.getD a AV.unk)) (0 : Int) (1000 : Int) then bif decide (dI (iv (es.getD a AV.unk)) - dI (iv (es.getD (IntKind.i64.wrap ((IntKind.u64.wrap (IntKind.i64.wrap ((↑i : Int) + (↑j : Int)))).fdiv ((2 : Int) ^ min (Int.toNat (1 : Int)) IntKind.u64.bits))).toNat AV.unk)) < (0 : Int)) then bif decide (((↑j : Int) - IntKind.i64.wrap (IntKind.i64.wrap ((IntKind.u64.wrap (IntKind.i64.wrap ((↑i : Int) + (↑j : Int)))).fdiv ((2 : Int) ^ min (Int.toNat (1 : Int)) IntKind.u64.bits)) + (1 : Int))).toNat < ((↑j : Int) - (↑i : Int)).toNat) then bif PID.beq PID && (decide ((0 : Int) ≤ (↑a : Int) ∧ (↑a : Int) < (↑es.length : Int) ∧ (0 : Int) ≤ IntKind.i64.wrap (IntKind.i64.wrap ((IntKind.u64.wrap (IntKind.i64.wrap ((↑i : Int) + (↑j : Int)))).fdiv ((2 : Int) ^ min (Int.toNat (1 : Int)) IntKind.u64.bits)) + (1 : Int)) ∧ IntKind.i64.wrap (IntKind.i64.wrap ((IntKind.u64.wrap (IntKind.i64.wrap ((↑i : Int) + (↑j : Int)))).fdiv ((2 : Int) ^ min (Int.toNat (1 : Int)) IntKind.u64.bits)) + (1 : Int)) ≤ (↑j : Int) ∧ (↑j : Int) ≤ (↑es.length : Int) ∧ es.length ≤ (1000 : Nat)) && okL es) then k (Ex.exit (0 : Nat)) [AV.own (1125899906842624 : Nat), AV.int IntKind.i64 (↑a : Int), AV.int IntKind.i64 m, AV.int IntKind.i64 b, AV.fn (25 : Nat) [], AV.int IntKind.i64 (↑(bs (lP es a) (j - (IntKind.i64.wrap (IntKind.i64.wrap ((IntKind.u64.wrap (IntKind.i64.wrap ((↑i : Int) + (↑j : Int)))).fdiv ((2 : Int) ^ min (Int.toNat (1 : Int)) IntKind.u64.bits)) + (1 : Int))).toNat) (IntKind.i64.wrap (IntKind.i64.wrap ((IntKind.u64.wrap (IntKind.i64.wrap ((↑i : Int) + (↑j : Int)))).fdiv ((2 : Int) ^ min (Int.toNat (1 : Int)) IntKind.u64.bits)) + (1 : Int))).toNat j) : Int), AV.int IntKind.i64 (↑(bs (lP es a) (j - (IntKind.i64.wrap (IntKind.i64.wrap ((IntKind.u64.wrap (IntKind.i64.wrap ((↑i : Int) + (↑j : Int)))).fdiv ((2 : Int) ^ min (Int.toNat (1 : Int)) IntKind.u64.bits)) + (1 : Int))).toNat) (IntKind.i64.wrap (IntKind.i64.wrap ((IntKind.u64.wrap (IntKind.i64.wrap ((↑i : Int) + (↑j : Int)))).fdiv ((2 : Int) ^ min (Int.toNat (1 : Int)) IntKind.u64.bits)) + (1 : Int))).toNat j) : Int)] [some (Row.arr false (Sh.int IntKind.i64) e es sp)] else none else none else bif decide ((IntKind.i64.wrap ((IntKind.u64.wrap (IntKind.i64.wrap ((↑i : Int) + (↑j : Int)))).fdiv ((2 : Int) ^ min (Int.toNat (1 : Int)) IntKind.u64.bits)) - (↑i : Int)).toNat < ((↑j : Int) - (↑i : Int)).toNat) then bif PID.beq PID && (decide ((0 : Int) ≤ (↑a : Int) ∧ (↑a : Int) < (↑es.length : Int) ∧ (0 : Int) ≤ (↑i : Int) ∧ (↑i : Int) ≤ IntKind.i64.wrap ((IntKind.u64.wrap (IntKind.i64.wrap ((↑i : Int) + (↑j : Int)))).fdiv ((2 : Int) ^ min (Int.toNat (1 : Int)) IntKind.u64.bits)) ∧ IntKind.i64.wrap ((IntKind.u64.wrap (IntKind.i64.wrap ((↑i : Int) + (↑j : Int)))).fdiv ((2 : Int) ^ min (Int.toNat (1 : Int)) IntKind.u64.bits)) ≤ (↑es.length : Int) ∧ es.length ≤ (1000 : Nat)) && okL es) then k (Ex.exit (0 : Nat)) [AV.own (1125899906842624 : Nat), AV.int IntKind.i64 (↑a : Int), AV.int IntKind.i64 m, AV.int IntKind.i64 b, AV.fn (25 : Nat) [], AV.int IntKind.i64 (↑(bs (lP es a) ((IntKind.i64.wrap ((IntKind.u64.wrap (IntKind.i64.wrap ((↑i : Int) + (↑j : Int)))).fdiv ((2 : Int) ^ min (Int.toNat (1 : Int)) IntKind.u64.bits))).toNat - i) i (IntKind.i64.wrap ((IntKind.u64.wrap (IntKind.i64.wrap ((↑i : Int) + (↑j : Int)))).fdiv ((2 : Int) ^ min (Int.toNat (1 : Int)) IntKind.u64.bits))).toNat) : Int), AV.int IntKind.i64 (↑(bs (lP es a) ((IntKind.i64.wrap ((IntKind.u64.wrap (IntKind.i64.wrap ((↑i : Int) + (↑j : Int)))).fdiv ((2 : Int) ^ min (Int.toNat (1 : Int)) IntKind.u64.bits))).toNat - i) i (IntKind.i64.wrap ((IntKind.u64.wrap (IntKind.i64.wrap ((↑i : Int) + (↑j : Int)))).fdiv ((2 : Int) ^ min (Int.toNat (1 : Int)) IntKind.u64.bits))).toNat) : Int)] [some (Row.arr false (Sh.int IntKind.i64) e es sp)] else none else none else none else none else none else none else none else k (Ex.exit (0 : Nat)) [AV.own (1125899906842624 : Nat), AV.int IntKind.i64 (↑a : Int), AV.int IntKind.i64 m, AV.int IntKind.i64 b, AV.fn (25 : Nat) [], AV.int IntKind.i64 (↑i : Int), AV.int IntKind.i64 (↑j : Int)] [some (Row.arr false (Sh.int IntKind.i64) e es sp)]) (by kernel_rfl) ?_
    rw [← hk, Nat.beq_refl]
    by_cases hlt : i < j
    · have w1 := mid_eq i j (by omega)
      have w2 : IntKind.i64.wrap ((((i + j) / 2 : Nat) : Int) + 1) = (((i + j) / 2 + 1 : Nat) : Int) := by rw [wrap_mid _ (by omega) (by omega)]; omega
      have hh : i ≤ (i + j) / 2 ∧ (i + j) / 2 < j := by omega
      rw [bs_step _ i j hlt, w1, w2]
      simp only [Int.toNat_natCast]
      generalize (i + j) / 2 = h at hh
      have o1 := okL_get hok (i := h) (by omega)
      have o2 := okL_get hok (i := a) (by omega)
      have hr : (inR (iv (es.getD (h) .unk)) 0 1000 && inR (iv (es.getD (a) .unk)) 0 1000) = true := and_t (okE_r o1) (okE_r o2)
      have hd := lt_dst (es.getD (h) .unk) (es.getD (a) .unk)
      have gd1 : (true && (decide ((0 : Int) ≤ (a : Int) ∧ (a : Int) < (es.length : Int) ∧ (0 : Int) ≤ ((h + 1 : Nat) : Int) ∧ ((h + 1 : Nat) : Int) ≤ (j : Int) ∧ (j : Int) ≤ (es.length : Int) ∧ es.length ≤ 1000) && okL es)) = true := and_t rfl (and_t (decide_eq_true (by omega)) hok)
      have gd2 : (true && (decide ((0 : Int) ≤ (a : Int) ∧ (a : Int) < (es.length : Int) ∧ (0 : Int) ≤ (i : Int) ∧ (i : Int) ≤ (h : Int) ∧ (h : Int) ≤ (es.length : Int) ∧ es.length ≤ 1000) && okL es)) = true := and_t rfl (and_t (decide_eq_true (by omega)) hok)
      have hP : (lP es a) h = decide (dst (es.getD (a) .unk) < dst (es.getD (h) .unk)) := rfl
      rw [hP]
      cases hb : decide (dst (es.getD (a) .unk) < dst (es.getD (h) .unk))
      · rw [hb] at hd
        repeat (first | refine Eq.trans (cond_t (by first | with_reducible rfl | assumption | exact decide_eq_true (by omega) | exact inb_true (by omega) (by omega))) ?_ | refine Eq.trans (cond_f (by first | with_reducible rfl | assumption | exact decide_eq_false (by omega))) ?_)
        rfl
      · rw [hb] at hd
        repeat (first | refine Eq.trans (cond_t (by first | with_reducible rfl | assumption | exact decide_eq_true (by omega) | exact inb_true (by omega) (by omega))) ?_ | refine Eq.trans (cond_f (by first | with_reducible rfl | assumption | exact decide_eq_false (by omega))) ?_)
        rfl
    · obtain rfl : i = j := by omega
      rw [decide_eq_false (by omega), bs_end]
      rfl
  · cases h
theorem loopB46 {n : Nat} (g : GOK Try.prog (G46 n)) : LoopOK Try.prog (G46 n) K46 (lp46 1) bb46 := by
  refine loopT g.natOK rfl (KOK.nil (by kernel_rfl)) μ46 (fun ρ vs rs k r h => ?_)
  unfold B46 at h
  split at h
  · rename_i p i' q' e es sp
    obtain ⟨hc, hk⟩ := gd_some h
    clear h
    simp only [Bool.and_eq_true] at hc
    obtain ⟨hp, hc, hok⟩ := hc
    obtain rfl := Nat.eq_of_beq_eq_true hp
    clear hp
    obtain ⟨c1, c2, c3, c4⟩ := of_decide_eq_true hc
    obtain ⟨i, rfl⟩ : ∃ a : Nat, i' = a := ⟨i'.toNat, by omega⟩
    obtain ⟨q, rfl⟩ : ∃ a : Nat, q' = a := ⟨q'.toNat, by omega⟩
    simp only [Int.toNat_natCast] at hk
    refine Eq.trans (b := bif decide ((↑q : Int) < IntKind.i64.wrap ((↑i : Int) - (1 : Int))) then bif inb (IntKind.i64.wrap ((↑q : Int) + (1 : Int))) es.length then bif decide ((IntKind.i64.wrap ((↑q : Int) + (1 : Int))).toNat < es.length) then bif inb (↑q : Int) es.length then bif decide (q < es.length) then bif inb (↑q : Int) es.length then bif decide (q < es.length) then bif inb (IntKind.i64.wrap ((↑q : Int) + (1 : Int))) (es.set q (mkAV (Sh.int IntKind.i64) [AV.int IntKind.i64 (iv (es.getD (IntKind.i64.wrap ((↑q : Int) + (1 : Int))).toNat AV.unk))])).length then bif decide ((IntKind.i64.wrap ((↑q : Int) + (1 : Int))).toNat < (es.set q (mkAV (Sh.int IntKind.i64) [AV.int IntKind.i64 (iv (es.getD (IntKind.i64.wrap ((↑q : Int) + (1 : Int))).toNat AV.unk))])).length) then bif decide (((↑i : Int) - IntKind.i64.wrap ((↑q : Int) + (1 : Int))).toNat + (IntKind.i64.wrap ((↑q : Int) + (1 : Int)) - (↑i : Int)).toNat < ((↑i : Int) - (↑q : Int)).toNat + ((↑q : Int) - (↑i : Int)).toNat) then bif PID.beq PID && (decide ((0 : Int) ≤ IntKind.i64.wrap ((↑q : Int) + (1 : Int)) ∧ IntKind.i64.wrap ((↑q : Int) + (1 : Int)) < (↑i : Int) ∧ (↑i : Int) ≤ (↑((es.set q (mkAV (Sh.int IntKind.i64) [AV.int IntKind.i64 (iv (es.getD (IntKind.i64.wrap ((↑q : Int) + (1 : Int))).toNat AV.unk))])).set (IntKind.i64.wrap ((↑q : Int) + (1 : Int))).toNat (mkAV (Sh.int IntKind.i64) [AV.int IntKind.i64 (iv (es.getD q AV.unk))])).length : Int) ∧ ((es.set q (mkAV (Sh.int IntKind.i64) [AV.int IntKind.i64 (iv (es.getD (IntKind.i64.wrap ((↑q : Int) + (1 : Int))).toNat AV.unk))])).set (IntKind.i64.wrap ((↑q : Int) + (1 : Int))).toNat (mkAV (Sh.int IntKind.i64) [AV.int IntKind.i64 (iv (es.getD q AV.unk))])).length ≤ (1000 : Nat)) && okL ((es.set q (mkAV (Sh.int IntKind.i64) [AV.int IntKind.i64 (iv (es.getD (IntKind.i64.wrap ((↑q : Int) + (1 : Int))).toNat AV.unk))])).set (IntKind.i64.wrap ((↑q : Int) + (1 : Int))).toNat (mkAV (Sh.int IntKind.i64) [AV.int IntKind.i64 (iv (es.getD q AV.unk))]))) then k (Ex.exit (2 : Nat)) [AV.own (1125899906842624 : Nat), AV.int IntKind.i64 (↑i : Int), AV.int IntKind.i64 ((↑i : Int) - (1 : Int))] [some (Row.arr false (Sh.int IntKind.i64) e (mvR ((↑i : Int) - (1 : Int) - IntKind.i64.wrap ((↑q : Int) + (1 : Int))).toNat (IntKind.i64.wrap ((↑q : Int) + (1 : Int))).toNat ((es.set q (mkAV (Sh.int IntKind.i64) [AV.int IntKind.i64 (iv (es.getD (IntKind.i64.wrap ((↑q : Int) + (1 : Int))).toNat AV.unk))])).set (IntKind.i64.wrap ((↑q : Int) + (1 : Int))).toNat (mkAV (Sh.int IntKind.i64) [AV.int IntKind.i64 (iv (es.getD q AV.unk))]))) sp)] else none else none else none else none else none else none else none else none else none else none else k (Ex.exit (2 : Nat)) [AV.own (1125899906842624 : Nat), AV.int IntKind.i64 (↑i : Int), AV.int IntKind.i64 (↑q : Int)] [some (Row.arr false (Sh.int IntKind.i64) e es sp)]) (by kernel_rfl) ?_
    rw [← hk, Nat.beq_refl]
    have w0 : IntKind.i64.wrap ((i : Int) - 1) = (i : Int) - 1 := wrap_mid _ (by omega) (by omega)
    have w1 : IntKind.i64.wrap ((q : Int) + 1) = ((q + 1 : Nat) : Int) := by rw [wrap_mid _ (by omega) (by omega)]; omega
    rw [w0]
    by_cases hlt : q + 1 < i
    · obtain ⟨z, hz⟩ : ∃ z : Nat, ((i : Int) - 1 - (q : Int)).toNat = z + 1 := ⟨i - 1 - q - 1, by omega⟩
      have hz2 : ((i : Int) - 1 - ((q + 1 : Nat) : Int)).toNat = z := by omega
      have o1 := okL_get hok (i := q) (by omega)
      have o2 := okL_get hok (i := q + 1) (by omega)
      have hX : ((es.set q (.int .i64 (iv (es.getD (q + 1) .unk)))).set (q + 1) (.int .i64 (iv (es.getD q .unk)))) = swp es q (q + 1) := by
        show (es.set q (eI (es.getD (q + 1) .unk))).set (q + 1) (eI (es.getD q .unk)) = _
        rw [eI_of o1, eI_of o2]; rfl
      have hl := swp_len es q (q + 1)
      have hok2 := okL_swp hok (i := q) (j := q + 1) (by omega) (by omega)
      have e1 : inb ((q + 1 : Nat) : Int) (es.set q (.int .i64 (iv (es.getD (q + 1) .unk)))).length = true := inb_true (by omega) (by rw [List.length_set]; omega)
      have e2 : decide (q + 1 < (es.set q (.int .i64 (iv (es.getD (q + 1) .unk)))).length) = true := decide_eq_true (by rw [List.length_set]; omega)
      have gd2 : (true && (decide ((0 : Int) ≤ ((q + 1 : Nat) : Int) ∧ ((q + 1 : Nat) : Int) < (i : Int) ∧ (i : Int) ≤ ((swp es q (q + 1)).length : Int) ∧ (swp es q (q + 1)).length ≤ 1000) && okL (swp es q (q + 1)))) = true := and_t rfl (and_t (decide_eq_true (by omega)) hok2)
      rw [hz, mvR_succ, w1, hz2]
      simp only [Int.toNat_natCast, show ∀ n, mkAV (Sh.int IntKind.i64) [AV.int IntKind.i64 n] = AV.int IntKind.i64 n from fun _ => rfl, hX]
      repeat (first | refine Eq.trans (cond_t (by first | with_reducible rfl | assumption | exact decide_eq_true (by omega) | exact inb_true (by omega) (by omega))) ?_ | refine Eq.trans (cond_f (by first | with_reducible rfl | assumption | exact decide_eq_false (by omega))) ?_)
      rfl
    · rw [decide_eq_false (by omega), show ((i : Int) - 1 - (q : Int)).toNat = 0 from by omega, show (i : Int) - 1 = (q : Int) from by omega]
      rfl
  · cases h
theorem loopC46 {n : Nat} (g : GOK Try.prog (G46 n)) : LoopOK Try.prog (G46 n) K46 (lp46 2) cc46 := by
  refine loopT g.natOK rfl (KOK.nil (by kernel_rfl)) μ46 (fun ρ vs rs k r h => ?_)
  unfold C46 at h
  split at h
  · rename_i p a m' b i' j' e es sp
    obtain ⟨hc, hk⟩ := gd_some h
    clear h
    simp only [Bool.and_eq_true] at hc
    obtain ⟨hp, hc, hok⟩ := hc
    obtain rfl := Nat.eq_of_beq_eq_true hp
    clear hp
    obtain ⟨c1, c2, c3, c4, c5, c6⟩ := of_decide_eq_true hc
    obtain ⟨m, rfl⟩ : ∃ a : Nat, m' = a := ⟨m'.toNat, by omega⟩
    obtain ⟨i, rfl⟩ : ∃ a : Nat, i' = a := ⟨i'.toNat, by omega⟩
    obtain ⟨j, rfl⟩ : ∃ a : Nat, j' = a := ⟨j'.toNat, by omega⟩
    simp only [Int.toNat_natCast] at hk
    refine Eq.trans (b := bif decide ((↑i : Int) < (↑j : Int)) then bif inb (↑m : Int) es.length then bif decide (m < es.length) then bif inb (IntKind.i64.wrap ((IntKind.u64.wrap (IntKind.i64.wrap ((↑i : Int) + (↑j : Int)))).fdiv ((2 : Int) ^ min (Int.toNat (1 : Int)) IntKind.u64.bits))) es.length then bif decide ((IntKind.i64.wrap ((IntKind.u64.wrap (IntKind.i64.wrap ((↑i : Int) + (↑j : Int)))).fdiv ((2 : Int) ^ min (Int.toNat (1 : Int)) IntKind.u64.bits))).toNat < es.length) then bif inR (iv (es.getD m AV.unk)) (0 : Int) (1000 : Int) && inR (iv (es.getD (IntKind.i64.wrap ((IntKind.u64.wrap (IntKind.i64.wrap ((↑i : Int) + (↑j : Int)))).fdiv ((2 : Int) ^ min (Int.toNat (1 : Int)) IntKind.u64.bits))).toNat AV.unk)) (0 : Int) (1000 : Int) then bif !decide (dI (iv (es.getD (IntKind.i64.wrap ((IntKind.u64.wrap (IntKind.i64.wrap ((↑i : Int) + (↑j : Int)))).fdiv ((2 : Int) ^ min (Int.toNat (1 : Int)) IntKind.u64.bits))).toNat AV.unk)) - dI (iv (es.getD m AV.unk)) < (0 : Int)) then bif decide (((↑j : Int) - IntKind.i64.wrap (IntKind.i64.wrap ((IntKind.u64.wrap (IntKind.i64.wrap ((↑i : Int) + (↑j : Int)))).fdiv ((2 : Int) ^ min (Int.toNat (1 : Int)) IntKind.u64.bits)) + (1 : Int))).toNat < ((↑j : Int) - (↑i : Int)).toNat) then bif PID.beq PID && (decide ((0 : Int) ≤ (↑m : Int) ∧ (↑m : Int) < (↑es.length : Int) ∧ (0 : Int) ≤ IntKind.i64.wrap (IntKind.i64.wrap ((IntKind.u64.wrap (IntKind.i64.wrap ((↑i : Int) + (↑j : Int)))).fdiv ((2 : Int) ^ min (Int.toNat (1 : Int)) IntKind.u64.bits)) + (1 : Int)) ∧ IntKind.i64.wrap (IntKind.i64.wrap ((IntKind.u64.wrap (IntKind.i64.wrap ((↑i : Int) + (↑j : Int)))).fdiv ((2 : Int) ^ min (Int.toNat (1 : Int)) IntKind.u64.bits)) + (1 : Int)) ≤ (↑j : Int) ∧ (↑j : Int) ≤ (↑es.length : Int) ∧ es.length ≤ (1000 : Nat)) && okL es) then k (Ex.exit (4 : Nat)) [AV.own (1125899906842624 : Nat), AV.int IntKind.i64 a, AV.int IntKind.i64 (↑m : Int), AV.int IntKind.i64 b, AV.fn (25 : Nat) [], AV.int IntKind.i64 (↑(bs (rP es m) (j - (IntKind.i64.wrap (IntKind.i64.wrap ((IntKind.u64.wrap (IntKind.i64.wrap ((↑i : Int) + (↑j : Int)))).fdiv ((2 : Int) ^ min (Int.toNat (1 : Int)) IntKind.u64.bits)) + (1 : Int))).toNat) (IntKind.i64.wrap (IntKind.i64.wrap ((IntKind.u64.wrap (IntKind.i64.wrap ((↑i : Int) + (↑j : Int)))).fdiv ((2 : Int) ^ min (Int.toNat (1 : Int)) IntKind.u64.bits)) + (1 : Int))).toNat j) : Int), AV.int IntKind.i64 (↑(bs (rP es m) (j - (IntKind.i64.wrap (IntKind.i64.wrap ((IntKind.u64.wrap (IntKind.i64.wrap ((↑i : Int) + (↑j : Int)))).fdiv ((2 : Int) ^ min (Int.toNat (1 : Int)) IntKind.u64.bits)) + (1 : Int))).toNat) (IntKind.i64.wrap (IntKind.i64.wrap ((IntKind.u64.wrap (IntKind.i64.wrap ((↑i : Int) + (↑j : Int)))).fdiv ((2 : Int) ^ min (Int.toNat (1 : Int)) IntKind.u64.bits)) + (1 : Int))).toNat j) : Int)] [some (Row.arr false (Sh.int IntKind.i64) e es sp)] else none else none else bif decide ((IntKind.i64.wrap ((IntKind.u64.wrap (IntKind.i64.wrap ((↑i : Int) + (↑j : Int)))).fdiv ((2 : Int) ^ min (Int.toNat (1 : Int)) IntKind.u64.bits)) - (↑i : Int)).toNat < ((↑j : Int) - (↑i : Int)).toNat) then bif PID.beq PID && (decide ((0 : Int) ≤ (↑m : Int) ∧ (↑m : Int) < (↑es.length : Int) ∧ (0 : Int) ≤ (↑i : Int) ∧ (↑i : Int) ≤ IntKind.i64.wrap ((IntKind.u64.wrap (IntKind.i64.wrap ((↑i : Int) + (↑j : Int)))).fdiv ((2 : Int) ^ min (Int.toNat (1 : Int)) IntKind.u64.bits)) ∧ IntKind.i64.wrap ((IntKind.u64.wrap (IntKind.i64.wrap ((↑i : Int) + (↑j : Int)))).fdiv ((2 : Int) ^ min (Int.toNat (1 : Int)) IntKind.u64.bits)) ≤ (↑es.length : Int) ∧ es.length ≤ (1000 : Nat)) && okL es) then k (Ex.exit (4 : Nat)) [AV.own (1125899906842624 : Nat), AV.int IntKind.i64 a, AV.int IntKind.i64 (↑m : Int), AV.int IntKind.i64 b, AV.fn (25 : Nat) [], AV.int IntKind.i64 (↑(bs (rP es m) ((IntKind.i64.wrap ((IntKind.u64.wrap (IntKind.i64.wrap ((↑i : Int) + (↑j : Int)))).fdiv ((2 : Int) ^ min (Int.toNat (1 : Int)) IntKind.u64.bits))).toNat - i) i (IntKind.i64.wrap ((IntKind.u64.wrap (IntKind.i64.wrap ((↑i : Int) + (↑j : Int)))).fdiv ((2 : Int) ^ min (Int.toNat (1 : Int)) IntKind.u64.bits))).toNat) : Int), AV.int IntKind.i64 (↑(bs (rP es m) ((IntKind.i64.wrap ((IntKind.u64.wrap (IntKind.i64.wrap ((↑i : Int) + (↑j : Int)))).fdiv ((2 : Int) ^ min (Int.toNat (1 : Int)) IntKind.u64.bits))).toNat - i) i (IntKind.i64.wrap ((IntKind.u64.wrap (IntKind.i64.wrap ((↑i : Int) + (↑j : Int)))).fdiv ((2 : Int) ^ min (Int.toNat (1 : Int)) IntKind.u64.bits))).toNat) : Int)] [some (Row.arr false (Sh.int IntKind.i64) e es sp)] else none else none else none else none else none else none else none else k (Ex.exit (4 : Nat)) [AV.own (1125899906842624 : Nat), AV.int IntKind.i64 a, AV.int IntKind.i64 (↑m : Int), AV.int IntKind.i64 b, AV.fn (25 : Nat) [], AV.int IntKind.i64 (↑i : Int), AV.int IntKind.i64 (↑j : Int)] [some (Row.arr false (Sh.int IntKind.i64) e es sp)]) (by kernel_rfl) ?_
    rw [← hk, Nat.beq_refl]
    by_cases hlt : i < j
    · have w1 := mid_eq i j (by omega)
      have w2 : IntKind.i64.wrap ((((i + j) / 2 : Nat) : Int) + 1) = (((i + j) / 2 + 1 : Nat) : Int) := by rw [wrap_mid _ (by omega) (by omega)]; omega
      have hh : i ≤ (i + j) / 2 ∧ (i + j) / 2 < j := by omega
      rw [bs_step _ i j hlt, w1, w2]
      simp only [Int.toNat_natCast]
      generalize (i + j) / 2 = h at hh
      have o1 := okL_get hok (i := m) (by omega)
      have o2 := okL_get hok (i := h) (by omega)
      have hr : (inR (iv (es.getD (m) .unk)) 0 1000 && inR (iv (es.getD (h) .unk)) 0 1000) = true := and_t (okE_r o1) (okE_r o2)
      have hd := lt_dst (es.getD (m) .unk) (es.getD (h) .unk)
      have gd1 : (true && (decide ((0 : Int) ≤ (m : Int) ∧ (m : Int) < (es.length : Int) ∧ (0 : Int) ≤ ((h + 1 : Nat) : Int) ∧ ((h + 1 : Nat) : Int) ≤ (j : Int) ∧ (j : Int) ≤ (es.length : Int) ∧ es.length ≤ 1000) && okL es)) = true := and_t rfl (and_t (decide_eq_true (by omega)) hok)
      have gd2 : (true && (decide ((0 : Int) ≤ (m : Int) ∧ (m : Int) < (es.length : Int) ∧ (0 : Int) ≤ (i : Int) ∧ (i : Int) ≤ (h : Int) ∧ (h : Int) ≤ (es.length : Int) ∧ es.length ≤ 1000) && okL es)) = true := and_t rfl (and_t (decide_eq_true (by omega)) hok)
      have hP : (rP es m) h = !decide (dst (es.getD (h) .unk) < dst (es.getD (m) .unk)) := rfl
      rw [hP]
      cases hb : decide (dst (es.getD (h) .unk) < dst (es.getD (m) .unk))
      · rw [hb] at hd
        have hn : (!decide (dI (iv (es.getD (h) .unk)) - dI (iv (es.getD (m) .unk)) < 0)) = true := by rw [hd]; rfl
        repeat (first | refine Eq.trans (cond_t (by first | with_reducible rfl | assumption | exact decide_eq_true (by omega) | exact inb_true (by omega) (by omega))) ?_ | refine Eq.trans (cond_f (by first | with_reducible rfl | assumption | exact decide_eq_false (by omega))) ?_)
        rfl
      · rw [hb] at hd
        have hn : (!decide (dI (iv (es.getD (h) .unk)) - dI (iv (es.getD (m) .unk)) < 0)) = false := by rw [hd]; rfl
        repeat (first | refine Eq.trans (cond_t (by first | with_reducible rfl | assumption | exact decide_eq_true (by omega) | exact inb_true (by omega) (by omega))) ?_ | refine Eq.trans (cond_f (by first | with_reducible rfl | assumption | exact decide_eq_false (by omega))) ?_)
        rfl
    · obtain rfl : i = j := by omega
      rw [decide_eq_false (by omega), bs_end]
      rfl
  · cases h
theorem loopD46 {n : Nat} (g : GOK Try.prog (G46 n)) : LoopOK Try.prog (G46 n) K46 (lp46 3) dd46 := by
  refine loopT g.natOK rfl (KOK.nil (by kernel_rfl)) μ46 (fun ρ vs rs k r h => ?_)
  unfold D46 at h
  split at h
  · rename_i p i' q' e es sp
    obtain ⟨hc, hk⟩ := gd_some h
    clear h
    simp only [Bool.and_eq_true] at hc
    obtain ⟨hp, hc, hok⟩ := hc
    obtain rfl := Nat.eq_of_beq_eq_true hp
    clear hp
    obtain ⟨c1, c2, c3, c4⟩ := of_decide_eq_true hc
    obtain ⟨i, rfl⟩ : ∃ a : Nat, i' = a := ⟨i'.toNat, by omega⟩
    obtain ⟨q, rfl⟩ : ∃ a : Nat, q' = a := ⟨q'.toNat, by omega⟩
    simp only [Int.toNat_natCast] at hk
    refine Eq.trans (b := bif decide ((↑q : Int) > (↑i : Int)) then bif inb (IntKind.i64.wrap ((↑q : Int) - (1 : Int))) es.length then bif decide ((IntKind.i64.wrap ((↑q : Int) - (1 : Int))).toNat < es.length) then bif inb (↑q : Int) es.length then bif decide (q < es.length) then bif inb (↑q : Int) es.length then bif decide (q < es.length) then bif inb (IntKind.i64.wrap ((↑q : Int) - (1 : Int))) (es.set q (mkAV (Sh.int IntKind.i64) [AV.int IntKind.i64 (iv (es.getD (IntKind.i64.wrap ((↑q : Int) - (1 : Int))).toNat AV.unk))])).length then bif decide ((IntKind.i64.wrap ((↑q : Int) - (1 : Int))).toNat < (es.set q (mkAV (Sh.int IntKind.i64) [AV.int IntKind.i64 (iv (es.getD (IntKind.i64.wrap ((↑q : Int) - (1 : Int))).toNat AV.unk))])).length) then bif decide (((↑i : Int) - IntKind.i64.wrap ((↑q : Int) - (1 : Int))).toNat + (IntKind.i64.wrap ((↑q : Int) - (1 : Int)) - (↑i : Int)).toNat < ((↑i : Int) - (↑q : Int)).toNat + ((↑q : Int) - (↑i : Int)).toNat) then bif PID.beq PID && (decide ((0 : Int) ≤ (↑i : Int) ∧ (↑i : Int) ≤ IntKind.i64.wrap ((↑q : Int) - (1 : Int)) ∧ IntKind.i64.wrap ((↑q : Int) - (1 : Int)) < (↑((es.set q (mkAV (Sh.int IntKind.i64) [AV.int IntKind.i64 (iv (es.getD (IntKind.i64.wrap ((↑q : Int) - (1 : Int))).toNat AV.unk))])).set (IntKind.i64.wrap ((↑q : Int) - (1 : Int))).toNat (mkAV (Sh.int IntKind.i64) [AV.int IntKind.i64 (iv (es.getD q AV.unk))])).length : Int) ∧ ((es.set q (mkAV (Sh.int IntKind.i64) [AV.int IntKind.i64 (iv (es.getD (IntKind.i64.wrap ((↑q : Int) - (1 : Int))).toNat AV.unk))])).set (IntKind.i64.wrap ((↑q : Int) - (1 : Int))).toNat (mkAV (Sh.int IntKind.i64) [AV.int IntKind.i64 (iv (es.getD q AV.unk))])).length ≤ (1000 : Nat)) && okL ((es.set q (mkAV (Sh.int IntKind.i64) [AV.int IntKind.i64 (iv (es.getD (IntKind.i64.wrap ((↑q : Int) - (1 : Int))).toNat AV.unk))])).set (IntKind.i64.wrap ((↑q : Int) - (1 : Int))).toNat (mkAV (Sh.int IntKind.i64) [AV.int IntKind.i64 (iv (es.getD q AV.unk))]))) then k (Ex.exit (6 : Nat)) [AV.own (1125899906842624 : Nat), AV.int IntKind.i64 (↑i : Int), AV.int IntKind.i64 (↑i : Int)] [some (Row.arr false (Sh.int IntKind.i64) e (mvL (IntKind.i64.wrap ((↑q : Int) - (1 : Int)) - (↑i : Int)).toNat (IntKind.i64.wrap ((↑q : Int) - (1 : Int))).toNat ((es.set q (mkAV (Sh.int IntKind.i64) [AV.int IntKind.i64 (iv (es.getD (IntKind.i64.wrap ((↑q : Int) - (1 : Int))).toNat AV.unk))])).set (IntKind.i64.wrap ((↑q : Int) - (1 : Int))).toNat (mkAV (Sh.int IntKind.i64) [AV.int IntKind.i64 (iv (es.getD q AV.unk))]))) sp)] else none else none else none else none else none else none else none else none else none else none else k (Ex.exit (6 : Nat)) [AV.own (1125899906842624 : Nat), AV.int IntKind.i64 (↑i : Int), AV.int IntKind.i64 (↑q : Int)] [some (Row.arr false (Sh.int IntKind.i64) e es sp)]) (by kernel_rfl) ?_
    rw [← hk, Nat.beq_refl]
    by_cases hlt : i < q
    · obtain ⟨u, rfl⟩ : ∃ u, q = u + 1 := ⟨q - 1, by omega⟩
      have w1 : IntKind.i64.wrap (((u + 1 : Nat) : Int) - 1) = (u : Int) := by rw [wrap_mid _ (by omega) (by omega)]; omega
      obtain ⟨z, hz⟩ : ∃ z : Nat, (((u + 1 : Nat) : Int) - (i : Int)).toNat = z + 1 := ⟨u - i, by omega⟩
      have hz2 : ((u : Int) - (i : Int)).toNat = z := by omega
      have o1 := okL_get hok (i := u) (by omega)
      have o2 := okL_get hok (i := u + 1) (by omega)
      have hX : ((es.set (u + 1) (.int .i64 (iv (es.getD u .unk)))).set u (.int .i64 (iv (es.getD (u + 1) .unk)))) = swp es (u + 1) u := by
        show (es.set (u + 1) (eI (es.getD u .unk))).set u (eI (es.getD (u + 1) .unk)) = _
        rw [eI_of o1, eI_of o2]; rfl
      have hl := swp_len es (u + 1) u
      have hok2 := okL_swp hok (i := u + 1) (j := u) (by omega) (by omega)
      have e1 : inb (u : Int) (es.set (u + 1) (.int .i64 (iv (es.getD u .unk)))).length = true := inb_true (by omega) (by rw [List.length_set]; omega)
      have e2 : decide (u < (es.set (u + 1) (.int .i64 (iv (es.getD u .unk)))).length) = true := decide_eq_true (by rw [List.length_set]; omega)
      have gd2 : (true && (decide ((0 : Int) ≤ (i : Int) ∧ (i : Int) ≤ (u : Int) ∧ (u : Int) < ((swp es (u + 1) u).length : Int) ∧ (swp es (u + 1) u).length ≤ 1000) && okL (swp es (u + 1) u))) = true := and_t rfl (and_t (decide_eq_true (by omega)) hok2)
      rw [hz, mvL_succ, w1, Nat.add_sub_cancel]
      simp only [Int.toNat_natCast, show ∀ n, mkAV (Sh.int IntKind.i64) [AV.int IntKind.i64 n] = AV.int IntKind.i64 n from fun _ => rfl, hX]
      rw [hz2]
      repeat (first | refine Eq.trans (cond_t (by first | with_reducible rfl | assumption | exact decide_eq_true (by omega) | exact inb_true (by omega) (by omega))) ?_ | refine Eq.trans (cond_f (by first | with_reducible rfl | assumption | exact decide_eq_false (by omega))) ?_)
      rfl
    · obtain rfl : i = q := by omega
      rw [decide_eq_false (by omega), show ((i : Int) - (i : Int)).toNat = 0 from by omega]
      rfl
  · cases h
theorem loopE46 {n : Nat} (g : GOK Try.prog (G46 n)) : LoopOK Try.prog (G46 n) K46 (lp46 4) ee46 := by
  refine loopT g.natOK rfl (KOK.nil (by kernel_rfl)) μ46 (fun ρ vs rs k r h => ?_)
  unfold E46 at h
  split at h
  · rename_i p a m b mid n' i' j' q' e es sp
    obtain ⟨hc, hk⟩ := gd_some h
    clear h
    simp only [Bool.and_eq_true] at hc
    obtain ⟨hp, hc, hok⟩ := hc
    obtain rfl := Nat.eq_of_beq_eq_true hp
    clear hp
    obtain ⟨c1, c2, c3, c4, c5, c6, c7, c8⟩ := of_decide_eq_true hc
    obtain ⟨i, rfl⟩ : ∃ a : Nat, i' = a := ⟨i'.toNat, by omega⟩
    obtain ⟨j, rfl⟩ : ∃ a : Nat, j' = a := ⟨j'.toNat, by omega⟩
    obtain ⟨q, rfl⟩ : ∃ a : Nat, q' = a := ⟨q'.toNat, by omega⟩
    simp only [Int.toNat_natCast] at hk
    refine Eq.trans (b := bif decide ((↑i : Int) < (↑j : Int)) then bif inb (IntKind.i64.wrap ((↑q : Int) - IntKind.i64.wrap ((IntKind.u64.wrap (IntKind.i64.wrap ((↑i : Int) + (↑j : Int)))).fdiv ((2 : Int) ^ min (Int.toNat (1 : Int)) IntKind.u64.bits)))) es.length then bif decide ((IntKind.i64.wrap ((↑q : Int) - IntKind.i64.wrap ((IntKind.u64.wrap (IntKind.i64.wrap ((↑i : Int) + (↑j : Int)))).fdiv ((2 : Int) ^ min (Int.toNat (1 : Int)) IntKind.u64.bits)))).toNat < es.length) then bif inb (IntKind.i64.wrap ((IntKind.u64.wrap (IntKind.i64.wrap ((↑i : Int) + (↑j : Int)))).fdiv ((2 : Int) ^ min (Int.toNat (1 : Int)) IntKind.u64.bits))) es.length then bif decide ((IntKind.i64.wrap ((IntKind.u64.wrap (IntKind.i64.wrap ((↑i : Int) + (↑j : Int)))).fdiv ((2 : Int) ^ min (Int.toNat (1 : Int)) IntKind.u64.bits))).toNat < es.length) then bif inR (iv (es.getD (IntKind.i64.wrap ((↑q : Int) - IntKind.i64.wrap ((IntKind.u64.wrap (IntKind.i64.wrap ((↑i : Int) + (↑j : Int)))).fdiv ((2 : Int) ^ min (Int.toNat (1 : Int)) IntKind.u64.bits)))).toNat AV.unk)) (0 : Int) (1000 : Int) && inR (iv (es.getD (IntKind.i64.wrap ((IntKind.u64.wrap (IntKind.i64.wrap ((↑i : Int) + (↑j : Int)))).fdiv ((2 : Int) ^ min (Int.toNat (1 : Int)) IntKind.u64.bits))).toNat AV.unk)) (0 : Int) (1000 : Int) then bif !decide (dI (iv (es.getD (IntKind.i64.wrap ((IntKind.u64.wrap (IntKind.i64.wrap ((↑i : Int) + (↑j : Int)))).fdiv ((2 : Int) ^ min (Int.toNat (1 : Int)) IntKind.u64.bits))).toNat AV.unk)) - dI (iv (es.getD (IntKind.i64.wrap ((↑q : Int) - IntKind.i64.wrap ((IntKind.u64.wrap (IntKind.i64.wrap ((↑i : Int) + (↑j : Int)))).fdiv ((2 : Int) ^ min (Int.toNat (1 : Int)) IntKind.u64.bits)))).toNat AV.unk)) < (0 : Int)) then bif decide (((↑j : Int) - IntKind.i64.wrap (IntKind.i64.wrap ((IntKind.u64.wrap (IntKind.i64.wrap ((↑i : Int) + (↑j : Int)))).fdiv ((2 : Int) ^ min (Int.toNat (1 : Int)) IntKind.u64.bits)) + (1 : Int))).toNat < ((↑j : Int) - (↑i : Int)).toNat) then bif PID.beq PID && (decide ((0 : Int) ≤ IntKind.i64.wrap (IntKind.i64.wrap ((IntKind.u64.wrap (IntKind.i64.wrap ((↑i : Int) + (↑j : Int)))).fdiv ((2 : Int) ^ min (Int.toNat (1 : Int)) IntKind.u64.bits)) + (1 : Int)) ∧ IntKind.i64.wrap (IntKind.i64.wrap ((IntKind.u64.wrap (IntKind.i64.wrap ((↑i : Int) + (↑j : Int)))).fdiv ((2 : Int) ^ min (Int.toNat (1 : Int)) IntKind.u64.bits)) + (1 : Int)) ≤ (↑j : Int) ∧ (↑j : Int) ≤ (↑es.length : Int) ∧ es.length ≤ (1000 : Nat) ∧ (↑j : Int) ≤ (↑q : Int) + (1 : Int) ∧ (↑q : Int) < (↑es.length : Int) + IntKind.i64.wrap (IntKind.i64.wrap ((IntKind.u64.wrap (IntKind.i64.wrap ((↑i : Int) + (↑j : Int)))).fdiv ((2 : Int) ^ min (Int.toNat (1 : Int)) IntKind.u64.bits)) + (1 : Int)) ∧ (↑q : Int) ≤ (100000 : Int) ∧ (0 : Int) ≤ (↑q : Int)) && okL es) then k (Ex.exit (8 : Nat)) [AV.own (1125899906842624 : Nat), AV.int IntKind.i64 a, AV.int IntKind.i64 m, AV.int IntKind.i64 b, AV.fn (25 : Nat) [], AV.int IntKind.i64 mid, AV.int IntKind.i64 n', AV.int IntKind.i64 (↑(bs (mP es q) (j - (IntKind.i64.wrap (IntKind.i64.wrap ((IntKind.u64.wrap (IntKind.i64.wrap ((↑i : Int) + (↑j : Int)))).fdiv ((2 : Int) ^ min (Int.toNat (1 : Int)) IntKind.u64.bits)) + (1 : Int))).toNat) (IntKind.i64.wrap (IntKind.i64.wrap ((IntKind.u64.wrap (IntKind.i64.wrap ((↑i : Int) + (↑j : Int)))).fdiv ((2 : Int) ^ min (Int.toNat (1 : Int)) IntKind.u64.bits)) + (1 : Int))).toNat j) : Int), AV.int IntKind.i64 (↑(bs (mP es q) (j - (IntKind.i64.wrap (IntKind.i64.wrap ((IntKind.u64.wrap (IntKind.i64.wrap ((↑i : Int) + (↑j : Int)))).fdiv ((2 : Int) ^ min (Int.toNat (1 : Int)) IntKind.u64.bits)) + (1 : Int))).toNat) (IntKind.i64.wrap (IntKind.i64.wrap ((IntKind.u64.wrap (IntKind.i64.wrap ((↑i : Int) + (↑j : Int)))).fdiv ((2 : Int) ^ min (Int.toNat (1 : Int)) IntKind.u64.bits)) + (1 : Int))).toNat j) : Int), AV.int IntKind.i64 (↑q : Int)] [some (Row.arr false (Sh.int IntKind.i64) e es sp)] else none else none else bif decide ((IntKind.i64.wrap ((IntKind.u64.wrap (IntKind.i64.wrap ((↑i : Int) + (↑j : Int)))).fdiv ((2 : Int) ^ min (Int.toNat (1 : Int)) IntKind.u64.bits)) - (↑i : Int)).toNat < ((↑j : Int) - (↑i : Int)).toNat) then bif PID.beq PID && (decide ((0 : Int) ≤ (↑i : Int) ∧ (↑i : Int) ≤ IntKind.i64.wrap ((IntKind.u64.wrap (IntKind.i64.wrap ((↑i : Int) + (↑j : Int)))).fdiv ((2 : Int) ^ min (Int.toNat (1 : Int)) IntKind.u64.bits)) ∧ IntKind.i64.wrap ((IntKind.u64.wrap (IntKind.i64.wrap ((↑i : Int) + (↑j : Int)))).fdiv ((2 : Int) ^ min (Int.toNat (1 : Int)) IntKind.u64.bits)) ≤ (↑es.length : Int) ∧ es.length ≤ (1000 : Nat) ∧ IntKind.i64.wrap ((IntKind.u64.wrap (IntKind.i64.wrap ((↑i : Int) + (↑j : Int)))).fdiv ((2 : Int) ^ min (Int.toNat (1 : Int)) IntKind.u64.bits)) ≤ (↑q : Int) + (1 : Int) ∧ (↑q : Int) < (↑es.length : Int) + (↑i : Int) ∧ (↑q : Int) ≤ (100000 : Int) ∧ (0 : Int) ≤ (↑q : Int)) && okL es) then k (Ex.exit (8 : Nat)) [AV.own (1125899906842624 : Nat), AV.int IntKind.i64 a, AV.int IntKind.i64 m, AV.int IntKind.i64 b, AV.fn (25 : Nat) [], AV.int IntKind.i64 mid, AV.int IntKind.i64 n', AV.int IntKind.i64 (↑(bs (mP es q) ((IntKind.i64.wrap ((IntKind.u64.wrap (IntKind.i64.wrap ((↑i : Int) + (↑j : Int)))).fdiv ((2 : Int) ^ min (Int.toNat (1 : Int)) IntKind.u64.bits))).toNat - i) i (IntKind.i64.wrap ((IntKind.u64.wrap (IntKind.i64.wrap ((↑i : Int) + (↑j : Int)))).fdiv ((2 : Int) ^ min (Int.toNat (1 : Int)) IntKind.u64.bits))).toNat) : Int), AV.int IntKind.i64 (↑(bs (mP es q) ((IntKind.i64.wrap ((IntKind.u64.wrap (IntKind.i64.wrap ((↑i : Int) + (↑j : Int)))).fdiv ((2 : Int) ^ min (Int.toNat (1 : Int)) IntKind.u64.bits))).toNat - i) i (IntKind.i64.wrap ((IntKind.u64.wrap (IntKind.i64.wrap ((↑i : Int) + (↑j : Int)))).fdiv ((2 : Int) ^ min (Int.toNat (1 : Int)) IntKind.u64.bits))).toNat) : Int), AV.int IntKind.i64 (↑q : Int)] [some (Row.arr false (Sh.int IntKind.i64) e es sp)] else none else none else none else none else none else none else none else k (Ex.exit (8 : Nat)) [AV.own (1125899906842624 : Nat), AV.int IntKind.i64 a, AV.int IntKind.i64 m, AV.int IntKind.i64 b, AV.fn (25 : Nat) [], AV.int IntKind.i64 mid, AV.int IntKind.i64 n', AV.int IntKind.i64 (↑i : Int), AV.int IntKind.i64 (↑j : Int), AV.int IntKind.i64 (↑q : Int)] [some (Row.arr false (Sh.int IntKind.i64) e es sp)]) (by kernel_rfl) ?_
    rw [← hk, Nat.beq_refl]
    by_cases hlt : i < j
    · have w1 := mid_eq i j (by omega)
      have w2 : IntKind.i64.wrap ((((i + j) / 2 : Nat) : Int) + 1) = (((i + j) / 2 + 1 : Nat) : Int) := by rw [wrap_mid _ (by omega) (by omega)]; omega
      have hh : i ≤ (i + j) / 2 ∧ (i + j) / 2 < j := by omega
      have w3 : IntKind.i64.wrap ((q : Int) - (((i + j) / 2 : Nat) : Int)) = ((q - (i + j) / 2 : Nat) : Int) := by rw [wrap_mid _ (by omega) (by omega)]; omega
      rw [w1, w3]
      simp only [Int.toNat_natCast]
      rw [bs_step _ i j hlt, w2]
      simp only [Int.toNat_natCast]
      generalize (i + j) / 2 = h at hh
      have o1 := okL_get hok (i := q - h) (by omega)
      have o2 := okL_get hok (i := h) (by omega)
      have hr : (inR (iv (es.getD (q - h) .unk)) 0 1000 && inR (iv (es.getD (h) .unk)) 0 1000) = true := and_t (okE_r o1) (okE_r o2)
      have hd := lt_dst (es.getD (q - h) .unk) (es.getD (h) .unk)
      have gd1 : (true && (decide ((0 : Int) ≤ ((h + 1 : Nat) : Int) ∧ ((h + 1 : Nat) : Int) ≤ (j : Int) ∧ (j : Int) ≤ (es.length : Int) ∧ es.length ≤ 1000 ∧ (j : Int) ≤ (q : Int) + 1 ∧ (q : Int) < (es.length : Int) + ((h + 1 : Nat) : Int) ∧ (q : Int) ≤ 100000 ∧ (0 : Int) ≤ (q : Int)) && okL es)) = true := and_t rfl (and_t (decide_eq_true (by omega)) hok)
      have gd2 : (true && (decide ((0 : Int) ≤ (i : Int) ∧ (i : Int) ≤ (h : Int) ∧ (h : Int) ≤ (es.length : Int) ∧ es.length ≤ 1000 ∧ (h : Int) ≤ (q : Int) + 1 ∧ (q : Int) < (es.length : Int) + (i : Int) ∧ (q : Int) ≤ 100000 ∧ (0 : Int) ≤ (q : Int)) && okL es)) = true := and_t rfl (and_t (decide_eq_true (by omega)) hok)
      have hP : (mP es q) h = !decide (dst (es.getD (h) .unk) < dst (es.getD (q - h) .unk)) := rfl
      rw [hP]
      cases hb : decide (dst (es.getD (h) .unk) < dst (es.getD (q - h) .unk))
      · rw [hb] at hd
        have hn : (!decide (dI (iv (es.getD (h) .unk)) - dI (iv (es.getD (q - h) .unk)) < 0)) = true := by rw [hd]; rfl
        repeat (first | refine Eq.trans (cond_t (by first | with_reducible rfl | assumption | exact decide_eq_true (by omega) | exact inb_true (by omega) (by omega))) ?_ | refine Eq.trans (cond_f (by first | with_reducible rfl | assumption | exact decide_eq_false (by omega))) ?_)
        rfl
      · rw [hb] at hd
        have hn : (!decide (dI (iv (es.getD (h) .unk)) - dI (iv (es.getD (q - h) .unk)) < 0)) = false := by rw [hd]; rfl
        repeat (first | refine Eq.trans (cond_t (by first | with_reducible rfl | assumption | exact decide_eq_true (by omega) | exact inb_true (by omega) (by omega))) ?_ | refine Eq.trans (cond_f (by first | with_reducible rfl | assumption | exact decide_eq_false (by omega))) ?_)
        rfl
    · obtain rfl : i = j := by omega
      rw [decide_eq_false (by omega), bs_end]
      rfl
  · cases h
end Go.Proofs.Ytpgaobdgohlegaa
