/-
  slices.swapRangeCmpFunc, slices.rotateCmpFunc.
-/
import Derived.Test.YtpgaobdgohlegaaClR
namespace Go.Proofs.Ytpgaobdgohlegaa
open Go.Ev

def swN (a b : Nat) : Nat → Nat → List AV → List AV
  | 0, _, es => es
  | n + 1, i, es => swN a b n (i + 1) (swp es (a + i) (b + i))
theorem swN_succ (a b n i : Nat) (es : List AV) : swN a b (n + 1) i es = swN a b n (i + 1) (swp es (a + i) (b + i)) := rfl
theorem swN_len (a b : Nat) : ∀ (n i : Nat) (es : List AV), (swN a b n i es).length = es.length
  | 0, _, _ => rfl
  | n + 1, i, es => by rw [swN_succ, swN_len a b n, swp_len]
theorem swN_ok {a b : Nat} : ∀ {n i : Nat} {es : List AV}, okL es = true → a + i + n ≤ es.length → b + i + n ≤ es.length → okL (swN a b n i es) = true
  | 0, _, _, h, _, _ => h
  | n + 1, i, es, h, h1, h2 => by
    rw [swN_succ]
    exact swN_ok (okL_swp h (by omega) (by omega)) (by rw [swp_len]; omega) (by rw [swp_len]; omega)
noncomputable def b51 : Code := ((Try.f51.body.map loopsOf).getD []).headD .skip
def L51 : List AV → List (Option Row) → Tr LOut
  | [.own p, .int .i64 a, .int .i64 b, .int .i64 n, .int .i64 i], [some (.arr false (.int .i64) e es sp)] => .gd (Nat.beq p PID && (decide (0 ≤ a ∧ 0 ≤ b ∧ 0 ≤ i ∧ i ≤ n ∧ a + n ≤ es.length ∧ b + n ≤ es.length ∧ es.length ≤ 1000) && okL es)) (.leaf (.exit 0, [.own PID, .int .i64 a, .int .i64 b, .int .i64 n, .int .i64 n], [some (.arr false (.int .i64) e (swN a.toNat b.toNat (n - i).toNat i.toNat es) sp)]))
  | _, _ => .no
def l51 : Ev.Loop := ⟨{ len := 38, slots := [0, 1, 2, 3, 10], rows := [PID] }, ofL L51⟩
def μ51 (vs : List AV) (_ : List (Option Row)) : Nat := match vs with
  | [_, _, _, .int _ n, .int _ i] => (n - i).toNat
  | _ => 0
theorem loop51 : LoopOK Try.prog GS [(1, l51)] b51 l51 := by
  refine loopT gS.natOK rfl (KOK.nil (by kernel_rfl)) μ51 (fun ρ vs rs k r h => ?_)
  unfold L51 at h
  split at h
  · rename_i p a' b' n' i' e es sp
    obtain ⟨hc, hk⟩ := gd_some h
    clear h
    simp only [Bool.and_eq_true] at hc
    obtain ⟨hp, hc, hok⟩ := hc
    obtain rfl := Nat.eq_of_beq_eq_true hp
    clear hp
    obtain ⟨c1, c2, c3, c4, c5, c6, c7⟩ := of_decide_eq_true hc
    obtain ⟨a, rfl⟩ : ∃ a : Nat, a' = a := ⟨a'.toNat, by omega⟩
    obtain ⟨b, rfl⟩ : ∃ b : Nat, b' = b := ⟨b'.toNat, by omega⟩
    obtain ⟨n, rfl⟩ : ∃ n : Nat, n' = n := ⟨n'.toNat, by omega⟩
    obtain ⟨i, rfl⟩ : ∃ i : Nat, i' = i := ⟨i'.toNat, by omega⟩
    simp only [Int.toNat_natCast] at hk
    refine Eq.trans (b := bif decide ((↑i : Int) < (↑n : Int)) then bif inb (IntKind.i64.wrap ((↑b : Int) + (↑i : Int))) es.length then bif decide ((IntKind.i64.wrap ((↑b : Int) + (↑i : Int))).toNat < es.length) then bif inb (IntKind.i64.wrap ((↑a : Int) + (↑i : Int))) es.length then bif decide ((IntKind.i64.wrap ((↑a : Int) + (↑i : Int))).toNat < es.length) then bif inb (IntKind.i64.wrap ((↑a : Int) + (↑i : Int))) es.length then bif decide ((IntKind.i64.wrap ((↑a : Int) + (↑i : Int))).toNat < es.length) then bif inb (IntKind.i64.wrap ((↑b : Int) + (↑i : Int))) (es.set (IntKind.i64.wrap ((↑a : Int) + (↑i : Int))).toNat (mkAV (Sh.int IntKind.i64) [AV.int IntKind.i64 (iv (es.getD (IntKind.i64.wrap ((↑b : Int) + (↑i : Int))).toNat AV.unk))])).length then bif decide ((IntKind.i64.wrap ((↑b : Int) + (↑i : Int))).toNat < (es.set (IntKind.i64.wrap ((↑a : Int) + (↑i : Int))).toNat (mkAV (Sh.int IntKind.i64) [AV.int IntKind.i64 (iv (es.getD (IntKind.i64.wrap ((↑b : Int) + (↑i : Int))).toNat AV.unk))])).length) then bif decide (((↑n : Int) - IntKind.i64.wrap ((↑i : Int) + (1 : Int))).toNat < ((↑n : Int) - (↑i : Int)).toNat) then bif PID.beq PID && (decide ((0 : Int) ≤ (↑a : Int) ∧ (0 : Int) ≤ (↑b : Int) ∧ (0 : Int) ≤ IntKind.i64.wrap ((↑i : Int) + (1 : Int)) ∧ IntKind.i64.wrap ((↑i : Int) + (1 : Int)) ≤ (↑n : Int) ∧ (↑a : Int) + (↑n : Int) ≤ (↑((es.set (IntKind.i64.wrap ((↑a : Int) + (↑i : Int))).toNat (mkAV (Sh.int IntKind.i64) [AV.int IntKind.i64 (iv (es.getD (IntKind.i64.wrap ((↑b : Int) + (↑i : Int))).toNat AV.unk))])).set (IntKind.i64.wrap ((↑b : Int) + (↑i : Int))).toNat (mkAV (Sh.int IntKind.i64) [AV.int IntKind.i64 (iv (es.getD (IntKind.i64.wrap ((↑a : Int) + (↑i : Int))).toNat AV.unk))])).length : Int) ∧ (↑b : Int) + (↑n : Int) ≤ (↑((es.set (IntKind.i64.wrap ((↑a : Int) + (↑i : Int))).toNat (mkAV (Sh.int IntKind.i64) [AV.int IntKind.i64 (iv (es.getD (IntKind.i64.wrap ((↑b : Int) + (↑i : Int))).toNat AV.unk))])).set (IntKind.i64.wrap ((↑b : Int) + (↑i : Int))).toNat (mkAV (Sh.int IntKind.i64) [AV.int IntKind.i64 (iv (es.getD (IntKind.i64.wrap ((↑a : Int) + (↑i : Int))).toNat AV.unk))])).length : Int) ∧ ((es.set (IntKind.i64.wrap ((↑a : Int) + (↑i : Int))).toNat (mkAV (Sh.int IntKind.i64) [AV.int IntKind.i64 (iv (es.getD (IntKind.i64.wrap ((↑b : Int) + (↑i : Int))).toNat AV.unk))])).set (IntKind.i64.wrap ((↑b : Int) + (↑i : Int))).toNat (mkAV (Sh.int IntKind.i64) [AV.int IntKind.i64 (iv (es.getD (IntKind.i64.wrap ((↑a : Int) + (↑i : Int))).toNat AV.unk))])).length ≤ (1000 : Nat)) && okL ((es.set (IntKind.i64.wrap ((↑a : Int) + (↑i : Int))).toNat (mkAV (Sh.int IntKind.i64) [AV.int IntKind.i64 (iv (es.getD (IntKind.i64.wrap ((↑b : Int) + (↑i : Int))).toNat AV.unk))])).set (IntKind.i64.wrap ((↑b : Int) + (↑i : Int))).toNat (mkAV (Sh.int IntKind.i64) [AV.int IntKind.i64 (iv (es.getD (IntKind.i64.wrap ((↑a : Int) + (↑i : Int))).toNat AV.unk))]))) then k (Ex.exit (0 : Nat)) [AV.own (1125899906842624 : Nat), AV.int IntKind.i64 (↑a : Int), AV.int IntKind.i64 (↑b : Int), AV.int IntKind.i64 (↑n : Int), AV.int IntKind.i64 (↑n : Int)] [some (Row.arr false (Sh.int IntKind.i64) e (swN a b ((↑n : Int) - IntKind.i64.wrap ((↑i : Int) + (1 : Int))).toNat (IntKind.i64.wrap ((↑i : Int) + (1 : Int))).toNat ((es.set (IntKind.i64.wrap ((↑a : Int) + (↑i : Int))).toNat (mkAV (Sh.int IntKind.i64) [AV.int IntKind.i64 (iv (es.getD (IntKind.i64.wrap ((↑b : Int) + (↑i : Int))).toNat AV.unk))])).set (IntKind.i64.wrap ((↑b : Int) + (↑i : Int))).toNat (mkAV (Sh.int IntKind.i64) [AV.int IntKind.i64 (iv (es.getD (IntKind.i64.wrap ((↑a : Int) + (↑i : Int))).toNat AV.unk))]))) sp)] else none else none else none else none else none else none else none else none else none else none else k (Ex.exit (0 : Nat)) [AV.own (1125899906842624 : Nat), AV.int IntKind.i64 (↑a : Int), AV.int IntKind.i64 (↑b : Int), AV.int IntKind.i64 (↑n : Int), AV.int IntKind.i64 (↑i : Int)] [some (Row.arr false (Sh.int IntKind.i64) e es sp)]) (by kernel_rfl) ?_
    rw [← hk, Nat.beq_refl]
    by_cases hlt : i < n
    · obtain ⟨q, hq⟩ : ∃ q : Nat, ((n : Int) - (i : Int)).toNat = q + 1 := ⟨n - i - 1, by omega⟩
      have hq2 : ((n : Int) - ((i + 1 : Nat) : Int)).toNat = q := by omega
      have w1 : IntKind.i64.wrap ((i : Int) + 1) = ((i + 1 : Nat) : Int) := by rw [wrap_mid _ (by omega) (by omega)]; omega
      have w2 : IntKind.i64.wrap ((a : Int) + (i : Int)) = ((a + i : Nat) : Int) := by rw [wrap_mid _ (by omega) (by omega)]; omega
      have w3 : IntKind.i64.wrap ((b : Int) + (i : Int)) = ((b + i : Nat) : Int) := by rw [wrap_mid _ (by omega) (by omega)]; omega
      have o1 := okL_get hok (i := a + i) (by omega)
      have o2 := okL_get hok (i := b + i) (by omega)
      have hX : ((es.set (a + i) (.int .i64 (iv (es.getD (b + i) .unk)))).set (b + i) (.int .i64 (iv (es.getD (a + i) .unk)))) = swp es (a + i) (b + i) := by
        show (es.set (a + i) (eI (es.getD (b + i) .unk))).set (b + i) (eI (es.getD (a + i) .unk)) = _
        rw [eI_of o1, eI_of o2]; rfl
      have hl := swp_len es (a + i) (b + i)
      have hok2 := okL_swp hok (i := a + i) (j := b + i) (by omega) (by omega)
      have e1 : inb ((b + i : Nat) : Int) (es.set (a + i) (.int .i64 (iv (es.getD (b + i) .unk)))).length = true := inb_true (by omega) (by rw [List.length_set]; omega)
      have e2 : decide (b + i < (es.set (a + i) (.int .i64 (iv (es.getD (b + i) .unk)))).length) = true := decide_eq_true (by rw [List.length_set]; omega)
      have gd2 : (true && (decide ((0 : Int) ≤ (a : Int) ∧ (0 : Int) ≤ (b : Int) ∧ (0 : Int) ≤ ((i + 1 : Nat) : Int) ∧ ((i + 1 : Nat) : Int) ≤ (n : Int) ∧ (a : Int) + (n : Int) ≤ ((swp es (a + i) (b + i)).length : Int) ∧ (b : Int) + (n : Int) ≤ ((swp es (a + i) (b + i)).length : Int) ∧ (swp es (a + i) (b + i)).length ≤ 1000) && okL (swp es (a + i) (b + i)))) = true := and_t rfl (and_t (decide_eq_true ⟨by omega, by omega, by omega, by omega, by omega, by omega, by omega⟩) hok2)
      rw [w1, w2, w3, hq, swN_succ]
      simp only [Int.toNat_natCast, show ∀ n, mkAV (Sh.int IntKind.i64) [AV.int IntKind.i64 n] = AV.int IntKind.i64 n from fun _ => rfl, hX, hq2]
      repeat (first | refine Eq.trans (cond_t (by first | with_reducible rfl | assumption | exact decide_eq_true (by omega) | exact inb_true (by omega) (by omega))) ?_ | refine Eq.trans (cond_f (by first | with_reducible rfl | assumption | exact decide_eq_false (by omega))) ?_)
      rfl
    · obtain rfl : i = n := by omega
      rw [decide_eq_false (by omega), show ((i : Int) - (i : Int)).toNat = 0 from by omega]
      rfl
  · cases h
def F51 : List AV → List Row → Tr XOut
  | [.own p, .int .i64 a, .int .i64 b, .int .i64 n, .fn 25 []], [.arr false (.int .i64) e es _] => .gd (Nat.beq p PID && (decide (0 ≤ a ∧ 0 ≤ b ∧ 0 ≤ n ∧ a + n ≤ es.length ∧ b + n ≤ es.length ∧ es.length ≤ 1000) && okL es)) (.leaf (.tup [], [some (.arr false (.int .i64) e (swN a.toNat b.toNat n.toNat 0 es) none)], []))
  | _, _ => .no
theorem ok51 : XOK Try.prog 51 (ofX F51) ∧ XNat (ofX F51) := by
  refine ⟨xsum1 (K := [(1, l51)]) (H := []) (b := b51) (l := l51) gS Try.func51 (by kernel_rfl) (by kernel_rfl) loop51 fun ρ avs rows k r h => ?_, xnat_ofX _⟩
  change (F51 avs rows).run _ = some r at h
  unfold F51 at h
  split at h
  · rename_i p a b n e es csp
    obtain ⟨hc, hk⟩ := gd_some h
    clear h
    simp only [Bool.and_eq_true] at hc
    obtain ⟨hp, hc, hok⟩ := hc
    obtain rfl := Nat.eq_of_beq_eq_true hp
    clear hp
    obtain ⟨c1, c2, c3, c4, c5, c6⟩ := of_decide_eq_true hc
    refine ⟨by simp, fun rows' hsp => ?_⟩
    obtain ⟨sp, rfl⟩ : ∃ sp, rows' = [.arr false (.int .i64) e es (some sp)] := by
      match rows', hsp with
      | [r1], ⟨⟨sp, h1, _⟩, _⟩ => exact ⟨sp, by rw [h1]⟩
    refine Eq.trans (b := bif PID.beq PID && (decide ((0 : Int) ≤ a ∧ (0 : Int) ≤ b ∧ (0 : Int) ≤ (0 : Int) ∧ (0 : Int) ≤ n ∧ a + n ≤ (↑es.length : Int) ∧ b + n ≤ (↑es.length : Int) ∧ es.length ≤ (1000 : Nat)) && okL es) then k (AV.tup []) [some (Row.arr false (Sh.int IntKind.i64) e (swN a.toNat b.toNat (n - (0 : Int)).toNat (0 : Nat) es) none)] [] else none) (by kernel_rfl) ?_
    rw [← hk, Nat.beq_refl, Int.sub_zero]
    exact cond_t (and_t rfl (and_t (decide_eq_true ⟨by omega, by omega, by omega, by omega, by omega, by omega, by omega⟩) hok))
  · cases h
/-! rotate -/
def rotS (m i j : Nat) (es : List AV) : Nat × List AV :=
  if h : 0 < i ∧ 0 < j ∧ i ≠ j then (if _ : j < i then rotS m (i - j) j (swN (m - i) m j 0 es) else rotS m i (j - i) (swN (m - i) (m + j - i) i 0 es)) else (i, es)
termination_by i + j
decreasing_by all_goals omega
theorem rotS_end {m i j : Nat} {es : List AV} (h : i = j) : rotS m i j es = (i, es) := by
  rw [rotS, dif_neg (by omega)]
theorem rotS_l {m i j : Nat} {es : List AV} (hj : 0 < j) (h : j < i) : rotS m i j es = rotS m (i - j) j (swN (m - i) m j 0 es) := by
  rw [rotS, dif_pos (by omega), dif_pos h]
theorem rotS_r {m i j : Nat} {es : List AV} (hi : 0 < i) (h : i < j) : rotS m i j es = rotS m i (j - i) (swN (m - i) (m + j - i) i 0 es) := by
  rw [rotS, dif_pos (by omega), dif_neg (by omega)]
noncomputable def G49 : Env := { pure := [(25, ofT F25)], opens := [(51, ofX F51)] }
theorem g49 : GOK Try.prog G49 := GOK.alsoX gS ok51
noncomputable def b49 : Code := ((Try.f49.body.map loopsOf).getD []).headD .skip
def L49 : List AV → List (Option Row) → Tr LOut
  | [.own p, .int .i64 m, .fn 25 [], .int .i64 i, .int .i64 j], [some (.arr false (.int .i64) e es sp)] => .gd (Nat.beq p PID && (decide (0 < i ∧ 0 < j ∧ i ≤ m ∧ m + j ≤ es.length ∧ es.length ≤ 1000) && okL es)) (.leaf (.exit 0, [.own PID, .int .i64 m, .fn 25 [], .int .i64 ((rotS m.toNat i.toNat j.toNat es).1 : Nat), .int .i64 ((rotS m.toNat i.toNat j.toNat es).1 : Nat)], [some (.arr false (.int .i64) e (rotS m.toNat i.toNat j.toNat es).2 (bif i == j then sp else none))]))
  | _, _ => .no
def l49 : Ev.Loop := ⟨{ len := 58, slots := [0, 2, 4, 10, 11], rows := [PID] }, ofL L49⟩
def μ49 (vs : List AV) (_ : List (Option Row)) : Nat := match vs with
  | [_, _, _, .int _ i, .int _ j] => i.toNat + j.toNat
  | _ => 0
theorem loop49 : LoopOK Try.prog G49 [(2, l49)] b49 l49 := by
  refine loopT g49.natOK rfl (KOK.nil (by kernel_rfl)) μ49 (fun ρ vs rs k r h => ?_)
  unfold L49 at h
  split at h
  · rename_i p m' i' j' e es sp
    obtain ⟨hc, hk⟩ := gd_some h
    clear h
    simp only [Bool.and_eq_true] at hc
    obtain ⟨hp, hc, hok⟩ := hc
    obtain rfl := Nat.eq_of_beq_eq_true hp
    clear hp
    obtain ⟨c1, c2, c3, c4, c5⟩ := of_decide_eq_true hc
    obtain ⟨m, rfl⟩ : ∃ a : Nat, m' = a := ⟨m'.toNat, by omega⟩
    obtain ⟨i, rfl⟩ : ∃ b : Nat, i' = b := ⟨i'.toNat, by omega⟩
    obtain ⟨j, rfl⟩ : ∃ n : Nat, j' = n := ⟨j'.toNat, by omega⟩
    simp only [Int.toNat_natCast] at hk
    refine Eq.trans (b := bif (↑i : Int) != (↑j : Int) then bif decide ((↑i : Int) > (↑j : Int)) then bif ((fun x => PID + x) (0 : Nat)).beq PID && (decide ((0 : Int) ≤ IntKind.i64.wrap ((↑m : Int) - (↑i : Int)) ∧ (0 : Int) ≤ (↑m : Int) ∧ (0 : Int) ≤ (↑j : Int) ∧ IntKind.i64.wrap ((↑m : Int) - (↑i : Int)) + (↑j : Int) ≤ (↑es.length : Int) ∧ (↑m : Int) + (↑j : Int) ≤ (↑es.length : Int) ∧ es.length ≤ (1000 : Nat)) && okL es) then bif decide ((IntKind.i64.wrap ((↑i : Int) - (↑j : Int))).toNat + j < i + j) then bif PID.beq PID && (decide ((0 : Int) < IntKind.i64.wrap ((↑i : Int) - (↑j : Int)) ∧ (0 : Int) < (↑j : Int) ∧ IntKind.i64.wrap ((↑i : Int) - (↑j : Int)) ≤ (↑m : Int) ∧ (↑m : Int) + (↑j : Int) ≤ (↑(swN (IntKind.i64.wrap ((↑m : Int) - (↑i : Int))).toNat m j (0 : Nat) es).length : Int) ∧ (swN (IntKind.i64.wrap ((↑m : Int) - (↑i : Int))).toNat m j (0 : Nat) es).length ≤ (1000 : Nat)) && okL (swN (IntKind.i64.wrap ((↑m : Int) - (↑i : Int))).toNat m j (0 : Nat) es)) then k (Ex.exit (0 : Nat)) [AV.own (1125899906842624 : Nat), AV.int IntKind.i64 (↑m : Int), AV.fn (25 : Nat) [], AV.int IntKind.i64 (↑(rotS m (IntKind.i64.wrap ((↑i : Int) - (↑j : Int))).toNat j (swN (IntKind.i64.wrap ((↑m : Int) - (↑i : Int))).toNat m j (0 : Nat) es)).fst : Int), AV.int IntKind.i64 (↑(rotS m (IntKind.i64.wrap ((↑i : Int) - (↑j : Int))).toNat j (swN (IntKind.i64.wrap ((↑m : Int) - (↑i : Int))).toNat m j (0 : Nat) es)).fst : Int)] [some (Row.arr false (Sh.int IntKind.i64) e (rotS m (IntKind.i64.wrap ((↑i : Int) - (↑j : Int))).toNat j (swN (IntKind.i64.wrap ((↑m : Int) - (↑i : Int))).toNat m j (0 : Nat) es)).snd (bif IntKind.i64.wrap ((↑i : Int) - (↑j : Int)) == (↑j : Int) then none else none))] else none else none else none else bif ((fun x => PID + x) (0 : Nat)).beq PID && (decide ((0 : Int) ≤ IntKind.i64.wrap ((↑m : Int) - (↑i : Int)) ∧ (0 : Int) ≤ IntKind.i64.wrap (IntKind.i64.wrap ((↑m : Int) + (↑j : Int)) - (↑i : Int)) ∧ (0 : Int) ≤ (↑i : Int) ∧ IntKind.i64.wrap ((↑m : Int) - (↑i : Int)) + (↑i : Int) ≤ (↑es.length : Int) ∧ IntKind.i64.wrap (IntKind.i64.wrap ((↑m : Int) + (↑j : Int)) - (↑i : Int)) + (↑i : Int) ≤ (↑es.length : Int) ∧ es.length ≤ (1000 : Nat)) && okL es) then bif decide (i + (IntKind.i64.wrap ((↑j : Int) - (↑i : Int))).toNat < i + j) then bif PID.beq PID && (decide ((0 : Int) < (↑i : Int) ∧ (0 : Int) < IntKind.i64.wrap ((↑j : Int) - (↑i : Int)) ∧ (↑i : Int) ≤ (↑m : Int) ∧ (↑m : Int) + IntKind.i64.wrap ((↑j : Int) - (↑i : Int)) ≤ (↑(swN (IntKind.i64.wrap ((↑m : Int) - (↑i : Int))).toNat (IntKind.i64.wrap (IntKind.i64.wrap ((↑m : Int) + (↑j : Int)) - (↑i : Int))).toNat i (0 : Nat) es).length : Int) ∧ (swN (IntKind.i64.wrap ((↑m : Int) - (↑i : Int))).toNat (IntKind.i64.wrap (IntKind.i64.wrap ((↑m : Int) + (↑j : Int)) - (↑i : Int))).toNat i (0 : Nat) es).length ≤ (1000 : Nat)) && okL (swN (IntKind.i64.wrap ((↑m : Int) - (↑i : Int))).toNat (IntKind.i64.wrap (IntKind.i64.wrap ((↑m : Int) + (↑j : Int)) - (↑i : Int))).toNat i (0 : Nat) es)) then k (Ex.exit (0 : Nat)) [AV.own (1125899906842624 : Nat), AV.int IntKind.i64 (↑m : Int), AV.fn (25 : Nat) [], AV.int IntKind.i64 (↑(rotS m i (IntKind.i64.wrap ((↑j : Int) - (↑i : Int))).toNat (swN (IntKind.i64.wrap ((↑m : Int) - (↑i : Int))).toNat (IntKind.i64.wrap (IntKind.i64.wrap ((↑m : Int) + (↑j : Int)) - (↑i : Int))).toNat i (0 : Nat) es)).fst : Int), AV.int IntKind.i64 (↑(rotS m i (IntKind.i64.wrap ((↑j : Int) - (↑i : Int))).toNat (swN (IntKind.i64.wrap ((↑m : Int) - (↑i : Int))).toNat (IntKind.i64.wrap (IntKind.i64.wrap ((↑m : Int) + (↑j : Int)) - (↑i : Int))).toNat i (0 : Nat) es)).fst : Int)] [some (Row.arr false (Sh.int IntKind.i64) e (rotS m i (IntKind.i64.wrap ((↑j : Int) - (↑i : Int))).toNat (swN (IntKind.i64.wrap ((↑m : Int) - (↑i : Int))).toNat (IntKind.i64.wrap (IntKind.i64.wrap ((↑m : Int) + (↑j : Int)) - (↑i : Int))).toNat i (0 : Nat) es)).snd (bif (↑i : Int) == IntKind.i64.wrap ((↑j : Int) - (↑i : Int)) then none else none))] else none else none else none else k (Ex.exit (0 : Nat)) [AV.own (1125899906842624 : Nat), AV.int IntKind.i64 (↑m : Int), AV.fn (25 : Nat) [], AV.int IntKind.i64 (↑i : Int), AV.int IntKind.i64 (↑j : Int)] [some (Row.arr false (Sh.int IntKind.i64) e es sp)]) (by kernel_rfl) ?_
    rw [← hk, Nat.beq_refl]
    have w1 : IntKind.i64.wrap ((i : Int) - (j : Int)) = (i : Int) - (j : Int) := wrap_mid _ (by omega) (by omega)
    have w2 : IntKind.i64.wrap ((j : Int) - (i : Int)) = (j : Int) - (i : Int) := wrap_mid _ (by omega) (by omega)
    have w3 : IntKind.i64.wrap ((m : Int) - (i : Int)) = ((m - i : Nat) : Int) := by rw [wrap_mid _ (by omega) (by omega)]; omega
    have w4 : IntKind.i64.wrap ((m : Int) + (j : Int)) = ((m + j : Nat) : Int) := by rw [wrap_mid _ (by omega) (by omega)]; omega
    have w5 : IntKind.i64.wrap (((m + j : Nat) : Int) - (i : Int)) = ((m + j - i : Nat) : Int) := by rw [wrap_mid _ (by omega) (by omega)]; omega
    by_cases heq : i = j
    · subst heq
      have h1 : ((i : Int) != (i : Int)) = false := by simp
      have h2 : ((i : Int) == (i : Int)) = true := by simp
      rw [rotS_end rfl, h2]
      repeat (first | refine Eq.trans (cond_t (by first | with_reducible rfl | assumption | exact decide_eq_true (by omega) | exact inb_true (by omega) (by omega))) ?_ | refine Eq.trans (cond_f (by first | with_reducible rfl | assumption | exact decide_eq_false (by omega))) ?_)
      rfl
    · have h1 : ((i : Int) != (j : Int)) = true := by simp; omega
      have h2 : ((i : Int) == (j : Int)) = false := by simp; omega
      have hn : ∀ c : Bool, (bif c then (none : Option (List AV)) else none) = none := fun c => by cases c <;> rfl
      by_cases hlt : j < i
      · have hl := swN_len (m - i) m j 0 es
        have hok2 : okL (swN (m - i) m j 0 es) = true := swN_ok hok (by omega) (by omega)
        have gd1 : (true && (decide ((0 : Int) ≤ ((m - i : Nat) : Int) ∧ (0 : Int) ≤ (m : Int) ∧ (0 : Int) ≤ (j : Int) ∧ ((m - i : Nat) : Int) + (j : Int) ≤ (es.length : Int) ∧ (m : Int) + (j : Int) ≤ (es.length : Int) ∧ es.length ≤ 1000) && okL es)) = true := and_t rfl (and_t (decide_eq_true ⟨by omega, by omega, by omega, by omega, by omega, by omega⟩) hok)
        have gd2 : (true && (decide ((0 : Int) < ((i - j : Nat) : Int) ∧ (0 : Int) < (j : Int) ∧ ((i - j : Nat) : Int) ≤ (m : Int) ∧ (m : Int) + (j : Int) ≤ ((swN (m - i) m j 0 es).length : Int) ∧ (swN (m - i) m j 0 es).length ≤ 1000) && okL (swN (m - i) m j 0 es))) = true := and_t rfl (and_t (decide_eq_true ⟨by omega, by omega, by omega, by omega, by omega⟩) hok2)
        rw [rotS_l (m := m) (i := i) (j := j) (es := es) (by omega) hlt, h2, cond_false, w1, w3, show (i : Int) - (j : Int) = ((i - j : Nat) : Int) from by omega]
        simp only [Int.toNat_natCast, hn]
        repeat (first | refine Eq.trans (cond_t (by first | with_reducible rfl | assumption | exact decide_eq_true (by omega) | exact inb_true (by omega) (by omega))) ?_ | refine Eq.trans (cond_f (by first | with_reducible rfl | assumption | exact decide_eq_false (by omega))) ?_)
        rfl
      · have hl := swN_len (m - i) (m + j - i) i 0 es
        have hok2 : okL (swN (m - i) (m + j - i) i 0 es) = true := swN_ok hok (by omega) (by omega)
        have gd1 : (true && (decide ((0 : Int) ≤ ((m - i : Nat) : Int) ∧ (0 : Int) ≤ ((m + j - i : Nat) : Int) ∧ (0 : Int) ≤ (i : Int) ∧ ((m - i : Nat) : Int) + (i : Int) ≤ (es.length : Int) ∧ ((m + j - i : Nat) : Int) + (i : Int) ≤ (es.length : Int) ∧ es.length ≤ 1000) && okL es)) = true := and_t rfl (and_t (decide_eq_true ⟨by omega, by omega, by omega, by omega, by omega, by omega⟩) hok)
        have gd2 : (true && (decide ((0 : Int) < (i : Int) ∧ (0 : Int) < ((j - i : Nat) : Int) ∧ (i : Int) ≤ (m : Int) ∧ (m : Int) + ((j - i : Nat) : Int) ≤ ((swN (m - i) (m + j - i) i 0 es).length : Int) ∧ (swN (m - i) (m + j - i) i 0 es).length ≤ 1000) && okL (swN (m - i) (m + j - i) i 0 es))) = true := and_t rfl (and_t (decide_eq_true ⟨by omega, by omega, by omega, by omega, by omega⟩) hok2)
        rw [rotS_r (m := m) (i := i) (j := j) (es := es) (by omega) (by omega), h2, cond_false, w4, w2, w3, w5, show (j : Int) - (i : Int) = ((j - i : Nat) : Int) from by omega]
        simp only [Int.toNat_natCast, hn]
        repeat (first | refine Eq.trans (cond_t (by first | with_reducible rfl | assumption | exact decide_eq_true (by omega) | exact inb_true (by omega) (by omega))) ?_ | refine Eq.trans (cond_f (by first | with_reducible rfl | assumption | exact decide_eq_false (by omega))) ?_)
        rfl
  · cases h
/-- Parts of one length change places. -/
theorem swN_eq : ∀ (n : Nat) (P A M B Q : List AV), A.length = n → B.length = n → ∀ a b i, a + i = P.length → b + i = P.length + A.length + M.length → swN a b n i (P ++ A ++ M ++ B ++ Q) = P ++ B ++ M ++ A ++ Q
  | 0, P, A, M, B, Q, hA, hB, a, b, i, _, _ => by
    obtain rfl := List.eq_nil_of_length_eq_zero hA
    obtain rfl := List.eq_nil_of_length_eq_zero hB
    rfl
  | n + 1, P, x :: A, M, y :: B, Q, hA, hB, a, b, i, ha, hb => by
    have hA' : A.length = n := by simpa using hA
    have hB' : B.length = n := by simpa using hB
    have e1 : P ++ x :: A ++ M ++ y :: B ++ Q = P ++ x :: (A ++ M ++ y :: B ++ Q) := by simp
    have e2 : P ++ x :: A ++ M ++ y :: B ++ Q = (P ++ x :: A ++ M) ++ y :: (B ++ Q) := by simp
    have hb' : b + i = (P ++ x :: A ++ M).length := by simp at hb ⊢; omega
    have hs : swp (P ++ x :: A ++ M ++ y :: B ++ Q) (a + i) (b + i) = P ++ y :: A ++ M ++ x :: B ++ Q := by
      unfold swp
      have g1 : (P ++ x :: A ++ M ++ y :: B ++ Q).getD (a + i) .unk = x := by rw [e1, ha]; exact gd0 _ _ _
      have g2 : (P ++ x :: A ++ M ++ y :: B ++ Q).getD (b + i) .unk = y := by rw [e2, hb']; exact gd0 _ _ _
      rw [g1, g2, e1, ha, List.set_append_right _ _ (Nat.le_refl _), Nat.sub_self, List.set_cons_zero]
      have e3 : P ++ y :: (A ++ M ++ y :: B ++ Q) = (P ++ y :: A ++ M) ++ y :: (B ++ Q) := by simp
      rw [e3, hb', List.set_append_right _ _ (by simp), show (P ++ x :: A ++ M).length - (P ++ y :: A ++ M).length = 0 from by simp, List.set_cons_zero]
      simp
    rw [swN_succ, hs]
    have e4 : P ++ y :: A ++ M ++ x :: B ++ Q = (P ++ [y]) ++ A ++ (M ++ [x]) ++ B ++ Q := by simp
    rw [e4, swN_eq n (P ++ [y]) A (M ++ [x]) B Q hA' hB' a b (i + 1) (by simp; omega) (by simp at hb ⊢; omega)]
    simp
  | n + 1, P, [], M, B, Q, hA, hB, a, b, i, ha, hb => by simp at hA
  | n + 1, P, x :: A, M, [], Q, hA, hB, a, b, i, ha, hb => by simp at hB
theorem rot_eq : ∀ (n : Nat) (P U V Q : List AV) (m : Nat), U.length + V.length = n → 0 < U.length → 0 < V.length → m = P.length + U.length →
    swN (m - (rotS m U.length V.length (P ++ U ++ V ++ Q)).1) m (rotS m U.length V.length (P ++ U ++ V ++ Q)).1 0 (rotS m U.length V.length (P ++ U ++ V ++ Q)).2 = P ++ V ++ U ++ Q ∧ 0 < (rotS m U.length V.length (P ++ U ++ V ++ Q)).1 ∧ (rotS m U.length V.length (P ++ U ++ V ++ Q)).1 ≤ m ∧ m + (rotS m U.length V.length (P ++ U ++ V ++ Q)).1 ≤ (P ++ U ++ V ++ Q).length := by
  intro n
  induction n using Nat.strongRecOn with
  | _ n ih =>
    intro P U V Q m hn hU hV hm
    rcases Nat.lt_trichotomy U.length V.length with hlt | heq | hgt
    · -- the right part is longer
      rw [rotS_r hU hlt]
      obtain ⟨V1, V2, rfl, hV2⟩ : ∃ V1 V2, V = V1 ++ V2 ∧ V2.length = U.length := ⟨V.take (V.length - U.length), V.drop (V.length - U.length), (List.take_append_drop _ _).symm, by simp; omega⟩
      have h1 : V1.length = (V1 ++ V2).length - U.length := by simp; omega
      have hs : swN (m - U.length) (m + (V1 ++ V2).length - U.length) U.length 0 (P ++ U ++ (V1 ++ V2) ++ Q) = P ++ V2 ++ V1 ++ (U ++ Q) := by
        have := swN_eq U.length P U V1 V2 Q rfl hV2 (m - U.length) (m + (V1 ++ V2).length - U.length) 0 (by omega) (by simp; omega)
        rw [show P ++ U ++ (V1 ++ V2) ++ Q = P ++ U ++ V1 ++ V2 ++ Q from by simp, this]
        simp
      rw [hs, ← h1]
      have hl : (P ++ U ++ (V1 ++ V2) ++ Q).length = (P ++ V2 ++ V1 ++ (U ++ Q)).length := by simp; omega
      rw [hl]
      have := ih (V2.length + V1.length) (by simp at hn hlt ⊢; omega) P V2 V1 (U ++ Q) m rfl (by omega) (by simp at hlt; omega) (by omega)
      rw [hV2] at this
      refine ⟨?_, this.2⟩
      rw [this.1]
      simp
    · rw [rotS_end heq]
      have := swN_eq U.length P U [] V Q rfl heq.symm (m - U.length) m 0 (by omega) (by simp; omega)
      rw [List.append_nil, List.append_nil] at this
      exact ⟨this, hU, by show U.length ≤ m; omega, by simp; omega⟩
    · rw [rotS_l hV hgt]
      obtain ⟨U1, U2, rfl, hU1⟩ : ∃ U1 U2, U = U1 ++ U2 ∧ U1.length = V.length := ⟨U.take V.length, U.drop V.length, (List.take_append_drop _ _).symm, by simp; omega⟩
      have h1 : U2.length = (U1 ++ U2).length - V.length := by simp; omega
      have hs : swN (m - (U1 ++ U2).length) m V.length 0 (P ++ (U1 ++ U2) ++ V ++ Q) = (P ++ V) ++ U2 ++ U1 ++ Q := by
        have := swN_eq V.length P U1 U2 V Q hU1 rfl (m - (U1 ++ U2).length) m 0 (by omega) (by simp at hm ⊢; omega)
        rw [show P ++ (U1 ++ U2) ++ V ++ Q = P ++ U1 ++ U2 ++ V ++ Q from by simp, this]
      rw [hs, ← h1]
      have hl : (P ++ (U1 ++ U2) ++ V ++ Q).length = ((P ++ V) ++ U2 ++ U1 ++ Q).length := by simp; omega
      rw [hl]
      have := ih (U2.length + U1.length) (by simp at hn hgt ⊢; omega) (P ++ V) U2 U1 Q m rfl (by simp at hgt; omega) (by omega) (by simp at hm ⊢; omega)
      rw [hU1] at this
      refine ⟨?_, this.2⟩
      rw [this.1]
      simp
/-- Two neighbouring parts change places. -/
def rotAt (a m b : Nat) (es : List AV) : List AV := es.take a ++ (es.drop m).take (b - m) ++ (es.drop a).take (m - a) ++ es.drop b
theorem parts3 (a m b : Nat) (es : List AV) (h : a ≤ m) (h' : m ≤ b) : es = es.take a ++ (es.drop a).take (m - a) ++ (es.drop m).take (b - m) ++ es.drop b := by
  have h1 := parts a m es h
  have h2 := parts m b es h'
  rw [List.append_assoc (es.take m)] at h2
  have h3 : es.drop m = (es.drop m).take (b - m) ++ es.drop b := by
    rw [show es.drop b = (es.drop m).drop (b - m) from by rw [List.drop_drop]; congr 1; omega, List.take_append_drop]
  rw [List.append_assoc, ← h3]
  exact h1
def F49 : List AV → List Row → Tr XOut
  | [.own p, .int .i64 a, .int .i64 m, .int .i64 b, .fn 25 []], [.arr false (.int .i64) e es _] => .gd (Nat.beq p PID && (decide (0 ≤ a ∧ a < m ∧ m < b ∧ b ≤ es.length ∧ es.length ≤ 1000) && okL es)) (.leaf (.tup [], [some (.arr false (.int .i64) e (rotAt a.toNat m.toNat b.toNat es) none)], []))
  | _, _ => .no
theorem rotS_ok {m : Nat} : ∀ (n i j : Nat) (es : List AV), i + j = n → i ≤ m → m + j ≤ es.length → okL es = true → okL (rotS m i j es).2 = true ∧ (rotS m i j es).2.length = es.length := by
  intro n
  induction n using Nat.strongRecOn with
  | _ n ih =>
    intro i j es hn hi hj hok
    by_cases h : 0 < i ∧ 0 < j ∧ i ≠ j
    · by_cases hlt : j < i
      · rw [rotS_l h.2.1 hlt]
        have hl := swN_len (m - i) m j 0 es
        obtain ⟨a, b⟩ := ih (i - j + j) (by omega) (i - j) j (swN (m - i) m j 0 es) rfl (by omega) (by omega) (swN_ok hok (by omega) (by omega))
        exact ⟨a, b.trans hl⟩
      · rw [rotS_r h.1 (by omega)]
        have hl := swN_len (m - i) (m + j - i) i 0 es
        obtain ⟨a, b⟩ := ih (i + (j - i)) (by omega) i (j - i) (swN (m - i) (m + j - i) i 0 es) rfl (by omega) (by omega) (swN_ok hok (by omega) (by omega))
        exact ⟨a, b.trans hl⟩
    · rw [rotS, dif_neg h]; exact ⟨hok, rfl⟩
theorem ok49 : XOK Try.prog 49 (ofX F49) ∧ XNat (ofX F49) := by
  refine ⟨xsum1 (K := [(2, l49)]) (H := []) (b := b49) (l := l49) g49 Try.func49 (by kernel_rfl) (by kernel_rfl) loop49 fun ρ avs rows k r h => ?_, xnat_ofX _⟩
  change (F49 avs rows).run _ = some r at h
  unfold F49 at h
  split at h
  · rename_i p a' m' b' e es csp
    obtain ⟨hc, hk⟩ := gd_some h
    clear h
    simp only [Bool.and_eq_true] at hc
    obtain ⟨hp, hc, hok⟩ := hc
    obtain rfl := Nat.eq_of_beq_eq_true hp
    clear hp
    obtain ⟨c1, c2, c3, c4, c5⟩ := of_decide_eq_true hc
    obtain ⟨a, rfl⟩ : ∃ a : Nat, a' = a := ⟨a'.toNat, by omega⟩
    obtain ⟨m, rfl⟩ : ∃ b : Nat, m' = b := ⟨m'.toNat, by omega⟩
    obtain ⟨b, rfl⟩ : ∃ n : Nat, b' = n := ⟨b'.toNat, by omega⟩
    simp only [Int.toNat_natCast] at hk
    refine ⟨by simp, fun rows' hsp => ?_⟩
    obtain ⟨sp, rfl⟩ : ∃ sp, rows' = [.arr false (.int .i64) e es (some sp)] := by
      match rows', hsp with
      | [r1], ⟨⟨sp, h1, _⟩, _⟩ => exact ⟨sp, by rw [h1]⟩
    refine Eq.trans (b := bif PID.beq PID && (decide ((0 : Int) < IntKind.i64.wrap ((↑m : Int) - (↑a : Int)) ∧ (0 : Int) < IntKind.i64.wrap ((↑b : Int) - (↑m : Int)) ∧ IntKind.i64.wrap ((↑m : Int) - (↑a : Int)) ≤ (↑m : Int) ∧ (↑m : Int) + IntKind.i64.wrap ((↑b : Int) - (↑m : Int)) ≤ (↑es.length : Int) ∧ es.length ≤ (1000 : Nat)) && okL es) then bif ((fun x => PID + x) (0 : Nat)).beq PID && (decide ((0 : Int) ≤ IntKind.i64.wrap ((↑m : Int) - (↑(rotS m (IntKind.i64.wrap ((↑m : Int) - (↑a : Int))).toNat (IntKind.i64.wrap ((↑b : Int) - (↑m : Int))).toNat es).fst : Int)) ∧ (0 : Int) ≤ (↑m : Int) ∧ (0 : Int) ≤ (↑(rotS m (IntKind.i64.wrap ((↑m : Int) - (↑a : Int))).toNat (IntKind.i64.wrap ((↑b : Int) - (↑m : Int))).toNat es).fst : Int) ∧ IntKind.i64.wrap ((↑m : Int) - (↑(rotS m (IntKind.i64.wrap ((↑m : Int) - (↑a : Int))).toNat (IntKind.i64.wrap ((↑b : Int) - (↑m : Int))).toNat es).fst : Int)) + (↑(rotS m (IntKind.i64.wrap ((↑m : Int) - (↑a : Int))).toNat (IntKind.i64.wrap ((↑b : Int) - (↑m : Int))).toNat es).fst : Int) ≤ (↑(rotS m (IntKind.i64.wrap ((↑m : Int) - (↑a : Int))).toNat (IntKind.i64.wrap ((↑b : Int) - (↑m : Int))).toNat es).snd.length : Int) ∧ (↑m : Int) + (↑(rotS m (IntKind.i64.wrap ((↑m : Int) - (↑a : Int))).toNat (IntKind.i64.wrap ((↑b : Int) - (↑m : Int))).toNat es).fst : Int) ≤ (↑(rotS m (IntKind.i64.wrap ((↑m : Int) - (↑a : Int))).toNat (IntKind.i64.wrap ((↑b : Int) - (↑m : Int))).toNat es).snd.length : Int) ∧ (rotS m (IntKind.i64.wrap ((↑m : Int) - (↑a : Int))).toNat (IntKind.i64.wrap ((↑b : Int) - (↑m : Int))).toNat es).snd.length ≤ (1000 : Nat)) && okL (rotS m (IntKind.i64.wrap ((↑m : Int) - (↑a : Int))).toNat (IntKind.i64.wrap ((↑b : Int) - (↑m : Int))).toNat es).snd) then k (AV.tup []) [some (Row.arr false (Sh.int IntKind.i64) e (swN (IntKind.i64.wrap ((↑m : Int) - (↑(rotS m (IntKind.i64.wrap ((↑m : Int) - (↑a : Int))).toNat (IntKind.i64.wrap ((↑b : Int) - (↑m : Int))).toNat es).fst : Int))).toNat m (↑(rotS m (IntKind.i64.wrap ((↑m : Int) - (↑a : Int))).toNat (IntKind.i64.wrap ((↑b : Int) - (↑m : Int))).toNat es).fst : Int).toNat (0 : Nat) (rotS m (IntKind.i64.wrap ((↑m : Int) - (↑a : Int))).toNat (IntKind.i64.wrap ((↑b : Int) - (↑m : Int))).toNat es).snd) none)] [] else none else none) (by kernel_rfl) ?_
    rw [← hk, Nat.beq_refl]
    have w1 : IntKind.i64.wrap ((m : Int) - (a : Int)) = ((m - a : Nat) : Int) := by rw [wrap_mid _ (by omega) (by omega)]; omega
    have w2 : IntKind.i64.wrap ((b : Int) - (m : Int)) = ((b - m : Nat) : Int) := by rw [wrap_mid _ (by omega) (by omega)]; omega
    have hP : (es.take a).length = a := by rw [List.length_take]; omega
    have hU : ((es.drop a).take (m - a)).length = m - a := by rw [List.length_take, List.length_drop]; omega
    have hV : ((es.drop m).take (b - m)).length = b - m := by rw [List.length_take, List.length_drop]; omega
    have hr := rot_eq _ (es.take a) ((es.drop a).take (m - a)) ((es.drop m).take (b - m)) (es.drop b) m rfl (by omega) (by omega) (by omega)
    rw [hU, hV, ← parts3 a m b es (by omega) (by omega)] at hr
    obtain ⟨r1, r2, r3, r4⟩ := hr
    obtain ⟨s1, s2⟩ := rotS_ok (m := m) _ (m - a) (b - m) es rfl (by omega) (by omega) hok
    rw [w1, w2, Int.toNat_natCast, Int.toNat_natCast]
    generalize rotS m (m - a) (b - m) es = R at r1 r2 r3 r4 s1 s2
    have w3 : IntKind.i64.wrap ((m : Int) - (R.1 : Int)) = ((m - R.1 : Nat) : Int) := by rw [wrap_mid _ (by omega) (by omega)]; omega
    rw [w3, Int.toNat_natCast, Int.toNat_natCast, r1]
    refine Eq.trans (cond_t (and_t rfl (and_t (decide_eq_true ⟨by omega, by omega, by omega, by omega, by omega⟩) hok))) ?_
    have hb : ((fun x => PID + x) 0).beq PID = true := Nat.beq_refl PID
    exact Eq.trans (cond_t (and_t hb (and_t (decide_eq_true ⟨by omega, by omega, by omega, by omega, by omega, by omega⟩) s1))) rfl
  · cases h
end Go.Proofs.Ytpgaobdgohlegaa
