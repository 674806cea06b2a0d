/-
  slices.insertionSortCmpFunc, by the distance from the middle.
-/
import Derived.Test.YtpgaobdgohlegaaClQ
namespace Go.Proofs.Ytpgaobdgohlegaa
open Go.Ev

theorem max_if (a b : Int) : (if b > a then b else a) = max a b := by
  by_cases h : b > a
  · rw [if_pos h]; omega
  · rw [if_neg h]; omega
def dI (n : Int) : Int := max (n - 500) (500 - n)
theorem dI_bd {n : Int} (h : inR n 0 1000 = true) : 0 ≤ dI n ∧ dI n ≤ 500 := by
  obtain ⟨h1, h2⟩ := inR_spec h
  unfold dI; omega
noncomputable def GD : Env := { pure := [(26, evF Try.prog G0 [] Try.f26)] }
theorem gd : GOK Try.prog GD := GOK.also g0 (inl g0 Try.func26 (by kernel_rfl))
def F25 : List AV → Tr AV
  | [.int .i64 a, .int .i64 b] => .gd (inR a 0 1000 && inR b 0 1000) (.leaf (.int .i64 (dI b - dI a)))
  | _ => .no
theorem ok25 : SumOK Try.prog 25 (ofT F25) ∧ SNat (ofT F25) := by
  refine fn0 gd Try.func25 (by kernel_rfl) fun ρ avs k r h => ?_
  unfold F25 at h
  split at h
  · rename_i a b
    obtain ⟨hc, hk⟩ := gd_some h
    simp only [Bool.and_eq_true] at hc
    obtain ⟨a1, a2⟩ := inR_spec hc.1
    obtain ⟨b1, b2⟩ := inR_spec hc.2
    refine Eq.trans (b := k (AV.int IntKind.i64 (IntKind.i64.wrap ((if IntKind.i64.wrap ((500 : Int) - b) > IntKind.i64.wrap (b - (500 : Int)) then IntKind.i64.wrap ((500 : Int) - b) else IntKind.i64.wrap (b - (500 : Int))) - if IntKind.i64.wrap ((500 : Int) - a) > IntKind.i64.wrap (a - (500 : Int)) then IntKind.i64.wrap ((500 : Int) - a) else IntKind.i64.wrap (a - (500 : Int)))))) (by kernel_rfl) ?_
    rw [wrap_mid (a - 500) (by omega) (by omega), wrap_mid (500 - a) (by omega) (by omega), wrap_mid (b - 500) (by omega) (by omega), wrap_mid (500 - b) (by omega) (by omega), max_if, max_if]
    have := dI_bd hc.1
    have := dI_bd hc.2
    rw [← hk]
    show k (.int .i64 (IntKind.i64.wrap (dI b - dI a))) = _
    rw [wrap_mid _ (by omega) (by omega)]
    rfl
  · cases h
def eI (e : AV) : AV := .int .i64 (iv e)
def okE (e : AV) : Bool := hasSh (.int .i64) e && inR (iv e) 0 1000
def okL (es : List AV) : Bool := es.all okE
theorem eI_of {e : AV} (h : okE e = true) : eI e = e := by
  unfold okE at h
  simp only [Bool.and_eq_true] at h
  obtain ⟨n, rfl⟩ := has_int h.1
  rfl
theorem okL_get {es : List AV} (h : okL es = true) {i : Nat} (hi : i < es.length) : okE (es.getD i .unk) = true := List.all_eq_true.1 h _ (by rw [getD_eq hi]; exact List.getElem_mem hi)
theorem okE_r {e : AV} (h : okE e = true) : inR (iv e) 0 1000 = true := by
  unfold okE at h
  simp only [Bool.and_eq_true] at h
  exact h.2
theorem okL_set {es : List AV} {i : Nat} {x : AV} (h : okL es = true) (hx : okE x = true) : okL (es.set i x) = true := List.all_eq_true.2 fun y hy => by
  rcases List.mem_or_eq_of_mem_set hy with h' | h'
  · exact List.all_eq_true.1 h y h'
  · rw [h']; exact hx
theorem okL_swp {es : List AV} {i j : Nat} (h : okL es = true) (hi : i < es.length) (hj : j < es.length) : okL (swp es i j) = true := okL_set (okL_set h (okL_get h hj)) (okL_get h hi)
theorem lt_dst (x y : AV) : decide (dI (iv y) - dI (iv x) < 0) = decide (dst y < dst x) := by
  have : (dI (iv y) - dI (iv x) < 0) ↔ dst y < dst x := by unfold dst dI; omega
  exact decide_eq_decide.2 this
def sinkJ (a : Nat) : Nat → List AV → Nat
  | 0, _ => 0
  | j + 1, es => bif decide (a < j + 1) && decide (dst (es.getD j .unk) < dst (es.getD (j + 1) .unk)) then sinkJ a j (swp es (j + 1) j) else j + 1
theorem sinkJ_succ (a j : Nat) (es : List AV) : sinkJ a (j + 1) es = bif decide (a < j + 1) && decide (dst (es.getD j .unk) < dst (es.getD (j + 1) .unk)) then sinkJ a j (swp es (j + 1) j) else j + 1 := rfl
noncomputable def GS : Env := { pure := [(25, ofT F25)] }
theorem gS : GOK Try.prog GS := GOK.also g0 ok25
def MS45 : List AV → List (Option Row) → Tr LOut
  | [.own p, .int .i64 a, .int .i64 b, .fn 25 [], .int .i64 i, .int .i64 j], [some (.arr false (.int .i64) e es sp)] => .gd (Nat.beq p PID && (decide (0 ≤ a ∧ a ≤ j ∧ j < es.length ∧ es.length ≤ 1000) && okL es)) (.leaf (.exit 2, [.own PID, .int .i64 a, .int .i64 b, .fn 25 [], .int .i64 i, .int .i64 (sinkJ a.toNat j.toNat es : Nat)], [some (.arr false (.int .i64) e (sinkN a.toNat j.toNat es) sp)]))
  | _, _ => .no
def ms45 : Ev.Loop := ⟨{ len := 53, slots := [0, 1, 2, 3, 8, 9], rows := [PID] }, ofL MS45⟩
def isN (a : Nat) : Nat → Nat → List AV → List AV
  | 0, _, es => es
  | n + 1, i, es => isN a n (i + 1) (sinkN a i es)
theorem isN_succ (a n i : Nat) (es : List AV) : isN a (n + 1) i es = isN a n (i + 1) (sinkN a i es) := rfl
def LS45 : List AV → List (Option Row) → Tr LOut
  | [.own p, .int .i64 a, .int .i64 b, .fn 25 [], .int .i64 i], [some (.arr false (.int .i64) e es sp)] => .gd (Nat.beq p PID && (decide (0 ≤ a ∧ a ≤ i ∧ (i ≤ b ∨ i = a + 1) ∧ b ≤ es.length ∧ es.length ≤ 1000) && okL es)) (.leaf (.exit 0, [.own PID, .int .i64 a, .int .i64 b, .fn 25 [], .int .i64 (max i b)], [some (.arr false (.int .i64) e (isN a.toNat (b - i).toNat i.toNat es) sp)]))
  | _, _ => .no
def ls45 : Ev.Loop := ⟨{ len := 53, slots := [0, 1, 2, 3, 8], rows := [PID] }, ofL LS45⟩
def μS (vs : List AV) (_ : List (Option Row)) : Nat := match vs with
  | [_, _, _, _, _, .int _ j] => j.toNat
  | _ => 0
def μS2 (vs : List AV) (_ : List (Option Row)) : Nat := match vs with
  | [_, _, .int _ b, _, .int _ i] => (b - i).toNat
  | _ => 0
theorem sinkN_ok {a : Nat} : ∀ {j : Nat} {es : List AV}, okL es = true → j < es.length → okL (sinkN a j es) = true
  | 0, es, h, _ => h
  | j + 1, es, h, hj => by
    rw [sinkN_succ]
    cases decide (a < j + 1) && decide (dst (es.getD j .unk) < dst (es.getD (j + 1) .unk))
    · exact h
    · exact sinkN_ok (okL_swp h hj (by omega)) (by rw [swp_len]; omega)
theorem loopS45b : LoopOK Try.prog GS [(1, ls45), (4, ms45)] c45 ms45 := by
  refine loopT gS.natOK rfl (KOK.nil (by kernel_rfl)) μS (fun ρ vs rs k r h => ?_)
  unfold MS45 at h
  split at h
  · rename_i p a' b i j' e es sp
    obtain ⟨hc, hk⟩ := gd_some h
    simp only [Bool.and_eq_true] at hc
    obtain ⟨hp, hc, hok⟩ := hc
    obtain rfl := Nat.eq_of_beq_eq_true hp
    clear hp
    obtain ⟨c1, c2, c3, c4⟩ := of_decide_eq_true hc
    obtain ⟨a, rfl⟩ : ∃ a : Nat, a' = a := ⟨a'.toNat, by omega⟩
    obtain ⟨j, rfl⟩ : ∃ j : Nat, j' = j := ⟨j'.toNat, by omega⟩
    simp only [Int.toNat_natCast] at hk
    refine Eq.trans (b := bif decide ((↑j : Int) > (↑a : Int)) then bif inb (↑j : Int) es.length then bif decide (j < es.length) then bif inb (IntKind.i64.wrap ((↑j : Int) - (1 : Int))) es.length then bif decide ((IntKind.i64.wrap ((↑j : Int) - (1 : Int))).toNat < es.length) then bif inR (iv (es.getD j AV.unk)) (0 : Int) (1000 : Int) && inR (iv (es.getD (IntKind.i64.wrap ((↑j : Int) - (1 : Int))).toNat AV.unk)) (0 : Int) (1000 : Int) then bif decide (dI (iv (es.getD (IntKind.i64.wrap ((↑j : Int) - (1 : Int))).toNat AV.unk)) - dI (iv (es.getD j AV.unk)) < (0 : Int)) then bif inb (IntKind.i64.wrap ((↑j : Int) - (1 : Int))) es.length then bif decide ((IntKind.i64.wrap ((↑j : Int) - (1 : Int))).toNat < es.length) then bif inb (↑j : Int) es.length then bif decide (j < es.length) then bif inb (↑j : Int) es.length then bif decide (j < es.length) then bif inb (IntKind.i64.wrap ((↑j : Int) - (1 : Int))) (es.set j (mkAV (Sh.int IntKind.i64) [AV.int IntKind.i64 (iv (es.getD (IntKind.i64.wrap ((↑j : Int) - (1 : Int))).toNat AV.unk))])).length then bif decide ((IntKind.i64.wrap ((↑j : Int) - (1 : Int))).toNat < (es.set j (mkAV (Sh.int IntKind.i64) [AV.int IntKind.i64 (iv (es.getD (IntKind.i64.wrap ((↑j : Int) - (1 : Int))).toNat AV.unk))])).length) then bif decide ((IntKind.i64.wrap ((↑j : Int) - (1 : Int))).toNat < j) then bif PID.beq PID && (decide ((0 : Int) ≤ (↑a : Int) ∧ (↑a : Int) ≤ IntKind.i64.wrap ((↑j : Int) - (1 : Int)) ∧ IntKind.i64.wrap ((↑j : Int) - (1 : Int)) < (↑((es.set j (mkAV (Sh.int IntKind.i64) [AV.int IntKind.i64 (iv (es.getD (IntKind.i64.wrap ((↑j : Int) - (1 : Int))).toNat AV.unk))])).set (IntKind.i64.wrap ((↑j : Int) - (1 : Int))).toNat (mkAV (Sh.int IntKind.i64) [AV.int IntKind.i64 (iv (es.getD j AV.unk))])).length : Int) ∧ ((es.set j (mkAV (Sh.int IntKind.i64) [AV.int IntKind.i64 (iv (es.getD (IntKind.i64.wrap ((↑j : Int) - (1 : Int))).toNat AV.unk))])).set (IntKind.i64.wrap ((↑j : Int) - (1 : Int))).toNat (mkAV (Sh.int IntKind.i64) [AV.int IntKind.i64 (iv (es.getD j AV.unk))])).length ≤ (1000 : Nat)) && okL ((es.set j (mkAV (Sh.int IntKind.i64) [AV.int IntKind.i64 (iv (es.getD (IntKind.i64.wrap ((↑j : Int) - (1 : Int))).toNat AV.unk))])).set (IntKind.i64.wrap ((↑j : Int) - (1 : Int))).toNat (mkAV (Sh.int IntKind.i64) [AV.int IntKind.i64 (iv (es.getD j AV.unk))]))) then k (Ex.exit (2 : Nat)) [AV.own (1125899906842624 : Nat), AV.int IntKind.i64 (↑a : Int), AV.int IntKind.i64 b, AV.fn (25 : Nat) [], AV.int IntKind.i64 i, AV.int IntKind.i64 (↑(sinkJ a (IntKind.i64.wrap ((↑j : Int) - (1 : Int))).toNat ((es.set j (mkAV (Sh.int IntKind.i64) [AV.int IntKind.i64 (iv (es.getD (IntKind.i64.wrap ((↑j : Int) - (1 : Int))).toNat AV.unk))])).set (IntKind.i64.wrap ((↑j : Int) - (1 : Int))).toNat (mkAV (Sh.int IntKind.i64) [AV.int IntKind.i64 (iv (es.getD j AV.unk))]))) : Int)] [some (Row.arr false (Sh.int IntKind.i64) e (sinkN a (IntKind.i64.wrap ((↑j : Int) - (1 : Int))).toNat ((es.set j (mkAV (Sh.int IntKind.i64) [AV.int IntKind.i64 (iv (es.getD (IntKind.i64.wrap ((↑j : Int) - (1 : Int))).toNat AV.unk))])).set (IntKind.i64.wrap ((↑j : Int) - (1 : Int))).toNat (mkAV (Sh.int IntKind.i64) [AV.int IntKind.i64 (iv (es.getD j AV.unk))]))) sp)] else none else none else none else none else none else none else none else none else none else none else k (Ex.exit (2 : Nat)) [AV.own (1125899906842624 : Nat), AV.int IntKind.i64 (↑a : Int), AV.int IntKind.i64 b, AV.fn (25 : Nat) [], AV.int IntKind.i64 i, AV.int IntKind.i64 (↑j : Int)] [some (Row.arr false (Sh.int IntKind.i64) e es sp)] else none else none else none else none else none else k (Ex.exit (2 : Nat)) [AV.own (1125899906842624 : Nat), AV.int IntKind.i64 (↑a : Int), AV.int IntKind.i64 b, AV.fn (25 : Nat) [], AV.int IntKind.i64 i, AV.int IntKind.i64 (↑j : Int)] [some (Row.arr false (Sh.int IntKind.i64) e es sp)]) (by kernel_rfl) ?_
    clear h
    rw [← hk, Nat.beq_refl]
    by_cases hgt : a < j
    · obtain ⟨q, rfl⟩ : ∃ q, j = q + 1 := ⟨j - 1, by omega⟩
      have w1 : IntKind.i64.wrap (((q + 1 : Nat) : Int) - 1) = (q : Int) := by rw [wrap_mid _ (by omega) (by omega)]; omega
      have o1 := okL_get hok (i := q) (by omega)
      have o2 := okL_get hok (i := q + 1) (by omega)
      have hX : ((es.set (q + 1) (.int .i64 (iv (es.getD q .unk)))).set q (.int .i64 (iv (es.getD (q + 1) .unk)))) = swp es (q + 1) q := by
        show (es.set (q + 1) (eI (es.getD q .unk))).set q (eI (es.getD (q + 1) .unk)) = _
        rw [eI_of o1, eI_of o2]; rfl
      have hr : (inR (iv (es.getD (q + 1) .unk)) 0 1000 && inR (iv (es.getD q .unk)) 0 1000) = true := and_t (okE_r o2) (okE_r o1)
      rw [w1, Int.toNat_natCast, sinkN_succ, sinkJ_succ, decide_eq_true hgt, Bool.true_and]
      have hlen : (swp es (q + 1) q).length = es.length := swp_len _ _ _
      have gd : (true && (decide ((0 : Int) ≤ (a : Int) ∧ (a : Int) ≤ (q : Int) ∧ (q : Int) < ((swp es (q + 1) q).length : Int) ∧ (swp es (q + 1) q).length ≤ 1000) && okL (swp es (q + 1) q))) = true := and_t rfl (and_t (decide_eq_true ⟨by omega, by omega, by omega, by omega⟩) (okL_swp hok (by omega) (by omega)))
      have hd := lt_dst (es.getD (q + 1) .unk) (es.getD q .unk)
      cases hlt : decide (dst (es.getD q .unk) < dst (es.getD (q + 1) .unk))
      · rw [hlt] at hd
        repeat (first | refine Eq.trans (cond_t (by first | with_reducible rfl | assumption | exact decide_eq_true (by omega) | exact inb_true (by omega) (by omega))) ?_ | refine Eq.trans (cond_f (by first | with_reducible rfl | assumption | exact decide_eq_false (by omega))) ?_)
        rfl
      · rw [hlt] at hd
        have e1 : inb (q : Int) (es.set (q + 1) (.int .i64 (iv (es.getD q .unk)))).length = true := inb_true (by omega) (by rw [List.length_set]; omega)
        have e2 : decide (q < (es.set (q + 1) (.int .i64 (iv (es.getD q .unk)))).length) = true := decide_eq_true (by rw [List.length_set]; omega)
        simp only [show ∀ n, mkAV (Sh.int IntKind.i64) [AV.int IntKind.i64 n] = AV.int IntKind.i64 n from fun _ => rfl, hX]
        repeat (first | refine Eq.trans (cond_t (by first | with_reducible rfl | assumption | exact decide_eq_true (by omega) | exact inb_true (by omega) (by omega))) ?_ | refine Eq.trans (cond_f (by first | with_reducible rfl | assumption | exact decide_eq_false (by omega))) ?_)
        rfl
    · obtain rfl : j = a := by omega
      have e : ∀ es : List AV, sinkN j j es = es ∧ sinkJ j j es = j := fun es => by
        cases j with
        | zero => exact ⟨rfl, rfl⟩
        | succ q => rw [sinkN_succ, sinkJ_succ, decide_eq_false (Nat.lt_irrefl _)]; exact ⟨rfl, rfl⟩
      rw [(e es).1, (e es).2, decide_eq_false (by omega)]
      rfl
  · cases h
theorem loopS45 : LoopOK Try.prog GS [(1, ls45), (4, ms45)] b45 ls45 := by
  refine loopT gS.natOK rfl (KOK.one (b := c45) (by kernel_rfl) (by kernel_rfl) loopS45b) μS2 (fun ρ vs rs k r h => ?_)
  unfold LS45 at h
  split at h
  · rename_i p a' b' i' e es sp
    obtain ⟨hc, hk⟩ := gd_some h
    simp only [Bool.and_eq_true] at hc
    obtain ⟨hp, hc, hok⟩ := hc
    obtain rfl := Nat.eq_of_beq_eq_true hp
    clear hp
    obtain ⟨c1, c2, c3, c4, c5⟩ := of_decide_eq_true hc
    obtain ⟨a, rfl⟩ : ∃ a : Nat, a' = a := ⟨a'.toNat, by omega⟩
    obtain ⟨i, rfl⟩ : ∃ i : Nat, i' = i := ⟨i'.toNat, by omega⟩
    simp only [Int.toNat_natCast] at hk
    refine Eq.trans (b := bif decide ((↑i : Int) < b') then bif PID.beq PID && (decide ((0 : Int) ≤ (↑a : Int) ∧ (↑a : Int) ≤ (↑i : Int) ∧ (↑i : Int) < (↑es.length : Int) ∧ es.length ≤ (1000 : Nat)) && okL es) then bif decide ((b' - IntKind.i64.wrap ((↑i : Int) + (1 : Int))).toNat < (b' - (↑i : Int)).toNat) then bif PID.beq PID && (decide ((0 : Int) ≤ (↑a : Int) ∧ (↑a : Int) ≤ IntKind.i64.wrap ((↑i : Int) + (1 : Int)) ∧ (IntKind.i64.wrap ((↑i : Int) + (1 : Int)) ≤ b' ∨ IntKind.i64.wrap ((↑i : Int) + (1 : Int)) = (↑a : Int) + (1 : Int)) ∧ b' ≤ (↑(sinkN a i es).length : Int) ∧ (sinkN a i es).length ≤ (1000 : Nat)) && okL (sinkN a i es)) then k (Ex.exit (0 : Nat)) [AV.own (1125899906842624 : Nat), AV.int IntKind.i64 (↑a : Int), AV.int IntKind.i64 b', AV.fn (25 : Nat) [], AV.int IntKind.i64 (max (IntKind.i64.wrap ((↑i : Int) + (1 : Int))) b')] [some (Row.arr false (Sh.int IntKind.i64) e (isN a (b' - IntKind.i64.wrap ((↑i : Int) + (1 : Int))).toNat (IntKind.i64.wrap ((↑i : Int) + (1 : Int))).toNat (sinkN a i es)) sp)] else none else none else none else k (Ex.exit (0 : Nat)) [AV.own (1125899906842624 : Nat), AV.int IntKind.i64 (↑a : Int), AV.int IntKind.i64 b', AV.fn (25 : Nat) [], AV.int IntKind.i64 (↑i : Int)] [some (Row.arr false (Sh.int IntKind.i64) e es sp)]) (by kernel_rfl) ?_
    clear h
    rw [← hk, Nat.beq_refl]
    by_cases hlt : (i : Int) < b'
    · obtain ⟨n, hn⟩ : ∃ n : Nat, (b' - (i : Int)).toNat = n + 1 := ⟨(b' - (i : Int)).toNat - 1, by omega⟩
      have w1 : IntKind.i64.wrap ((i : Int) + 1) = ((i + 1 : Nat) : Int) := by rw [wrap_mid _ (by omega) (by omega)]; omega
      have hn2 : (b' - ((i + 1 : Nat) : Int)).toNat = n := by omega
      have hl := sinkN_len a i es
      have hok2 := sinkN_ok (a := a) hok (by omega : i < es.length)
      have gd1 : (true && (decide ((0 : Int) ≤ (a : Int) ∧ (a : Int) ≤ (i : Int) ∧ (i : Int) < (es.length : Int) ∧ es.length ≤ 1000) && okL es)) = true := and_t rfl (and_t (decide_eq_true ⟨by omega, by omega, by omega, by omega⟩) hok)
      have gd2 : (true && (decide ((0 : Int) ≤ (a : Int) ∧ (a : Int) ≤ ((i + 1 : Nat) : Int) ∧ (((i + 1 : Nat) : Int) ≤ b' ∨ ((i + 1 : Nat) : Int) = (a : Int) + 1) ∧ b' ≤ ((sinkN a i es).length : Int) ∧ (sinkN a i es).length ≤ 1000) && okL (sinkN a i es))) = true := and_t rfl (and_t (decide_eq_true ⟨by omega, by omega, by omega, by omega, by omega⟩) hok2)
      have hm : max ((i + 1 : Nat) : Int) b' = max (i : Int) b' := by omega
      rw [w1, hn2, hn, isN_succ, Int.toNat_natCast, hm]
      repeat (first | refine Eq.trans (cond_t (by first | with_reducible rfl | assumption | exact decide_eq_true (by omega) | exact inb_true (by omega) (by omega))) ?_ | refine Eq.trans (cond_f (by first | with_reducible rfl | assumption | exact decide_eq_false (by omega))) ?_)
      rfl
    · have hm : max (i : Int) b' = i := by omega
      rw [decide_eq_false hlt, show (b' - (i : Int)).toNat = 0 from by omega, hm]
      rfl
  · cases h
theorem isN_eq (P Q : List AV) : ∀ (R S : List AV), Dn S → isN P.length R.length (P.length + S.length) (P ++ S ++ R ++ Q) = P ++ sortS (S ++ R) ++ Q
  | [], S, h => by
    rw [List.append_nil, List.append_nil, sortS_fix h]; rfl
  | x :: R, S, h => by
    show isN P.length (R.length + 1) (P.length + S.length) _ = _
    have e : P ++ S ++ x :: R ++ Q = P ++ S ++ x :: (R ++ Q) := by simp
    rw [isN_succ, e, sinkN_eq P x (R ++ Q) S.length S rfl h]
    have hl : P.length + S.length + 1 = P.length + (sortS (S ++ [x])).length := by rw [sortS_len]; simp; omega
    rw [hl, ← List.append_assoc, isN_eq P Q R (sortS (S ++ [x])) (sortS_dn _), sortS_app]
    simp
/-- A part of a list is put in order. -/
def sortAt (a b : Nat) (es : List AV) : List AV := es.take a ++ sortS ((es.drop a).take (b - a)) ++ es.drop b
theorem parts (a b : Nat) (es : List AV) (h : a ≤ b) : es = es.take a ++ (es.drop a).take (b - a) ++ es.drop b := by
  rw [List.append_assoc, show es.drop b = (es.drop a).drop (b - a) from by rw [List.drop_drop]; congr 1; omega, List.take_append_drop, List.take_append_drop]
theorem isN_at {a b : Nat} {es : List AV} (h : a ≤ b) (hb : b ≤ es.length) : isN a (b - (a + 1)) (a + 1) es = sortAt a b es := by
  have hp := parts a b es h
  unfold sortAt
  have ha : (es.take a).length = a := by rw [List.length_take]; omega
  cases hm : (es.drop a).take (b - a) with
  | nil =>
    have : b - a = 0 := by
      have := congrArg List.length hm
      rw [List.length_take, List.length_drop] at this
      simp at this; omega
    rw [hm] at hp
    rw [show b - (a + 1) = 0 from by omega]
    show es = _
    simpa [sortS] using hp
  | cons x R =>
    have hR : R.length + 1 = b - a := by
      have := congrArg List.length hm
      rw [List.length_take, List.length_drop] at this
      simp at this; omega
    have := isN_eq (es.take a) (es.drop b) R [x] (List.pairwise_singleton _ _)
    rw [hm] at hp
    have e : es.take a ++ [x] ++ R ++ es.drop b = es := by
      have h2 : es.take a ++ [x] ++ R ++ es.drop b = es.take a ++ (x :: R) ++ es.drop b := by simp
      rw [h2]; exact hp.symm
    rw [ha, e] at this
    rw [show b - (a + 1) = R.length from by omega]
    exact this
def FS45 : List AV → List Row → Tr XOut
  | [.own p, .int .i64 a, .int .i64 b, .fn 25 []], [.arr false (.int .i64) e es _] => .gd (Nat.beq p PID && (decide (0 ≤ a ∧ a ≤ b ∧ b ≤ es.length ∧ es.length ≤ 1000) && okL es)) (.leaf (.tup [], [some (.arr false (.int .i64) e (sortAt a.toNat b.toNat es) none)], []))
  | _, _ => .no
theorem okS45 : XOK Try.prog 45 (ofX FS45) ∧ XNat (ofX FS45) := by
  refine ⟨xsums (K := [(1, ls45), (4, ms45)]) (H := []) (bs := [b45, c45]) gS Try.func45 (by kernel_rfl) (fun b hb => ?_) fun ρ avs rows k r h => ?_, xnat_ofX _⟩
  · rcases List.mem_cons.1 hb with rfl | hb
    · exact ⟨ls45, by kernel_rfl, loopS45⟩
    · rcases List.mem_cons.1 hb with rfl | hb
      · exact ⟨ms45, by kernel_rfl, loopS45b⟩
      · cases hb
  change (FS45 avs rows).run _ = some r at h
  unfold FS45 at h
  split at h
  · rename_i p a' b' e es csp
    obtain ⟨hc, hk⟩ := gd_some h
    simp only [Bool.and_eq_true] at hc
    obtain ⟨hp, hc, hok⟩ := hc
    obtain rfl := Nat.eq_of_beq_eq_true hp
    clear hp
    obtain ⟨c1, c2, c3, c4⟩ := of_decide_eq_true hc
    obtain ⟨a, rfl⟩ : ∃ a : Nat, a' = a := ⟨a'.toNat, by omega⟩
    obtain ⟨b, rfl⟩ : ∃ b : Nat, b' = b := ⟨b'.toNat, by omega⟩
    simp only [Int.toNat_natCast] at hk
    refine ⟨by simp, fun rows' hsp => ?_⟩
    obtain ⟨sp, rfl⟩ : ∃ sp, rows' = [.arr false (.int .i64) e es (some sp)] := by
      match rows', hsp with
      | [r1], ⟨⟨sp, h1, _⟩, _⟩ => exact ⟨sp, by rw [h1]⟩
    refine Eq.trans (b := bif PID.beq PID && (decide ((0 : Int) ≤ (↑a : Int) ∧ (↑a : Int) ≤ IntKind.i64.wrap ((↑a : Int) + (1 : Int)) ∧ (IntKind.i64.wrap ((↑a : Int) + (1 : Int)) ≤ (↑b : Int) ∨ IntKind.i64.wrap ((↑a : Int) + (1 : Int)) = (↑a : Int) + (1 : Int)) ∧ (↑b : Int) ≤ (↑es.length : Int) ∧ es.length ≤ (1000 : Nat)) && okL es) then k (AV.tup []) [some (Row.arr false (Sh.int IntKind.i64) e (isN a ((↑b : Int) - IntKind.i64.wrap ((↑a : Int) + (1 : Int))).toNat (IntKind.i64.wrap ((↑a : Int) + (1 : Int))).toNat es) none)] [] else none) (by kernel_rfl) ?_
    have w1 : IntKind.i64.wrap ((a : Int) + 1) = ((a + 1 : Nat) : Int) := by rw [wrap_mid _ (by omega) (by omega)]; omega
    rw [← hk, w1, Int.toNat_natCast, show ((b : Int) - ((a + 1 : Nat) : Int)).toNat = b - (a + 1) from by omega, isN_at (by omega) (by omega)]
    exact cond_t (and_t (Nat.beq_refl _) (and_t (decide_eq_true (by omega)) hok))
  · cases h
end Go.Proofs.Ytpgaobdgohlegaa
