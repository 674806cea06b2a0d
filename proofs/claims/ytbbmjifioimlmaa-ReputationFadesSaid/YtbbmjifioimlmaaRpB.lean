/-
  Loops that look through senders.
-/
import Derived.Test.YtbbmjifioimlmaaRpA
import Derived.Test.YtbbmjifioimlmaaTr
import Derived.Test.YtbbmjifioimlmaaOrd
namespace Go.Proofs.Ytbbmjifioimlmaa
open Go.Ev

def nmOf (e : AV) : List UInt8 := (e.cells.headD .unk).toStr
def gOf (e : AV) : Int := (e.cells.tail.headD .unk).toInt
def bOf (e : AV) : Int := (e.cells.tail.tail.headD .unk).toInt
def dOf (e : AV) : Int := (e.cells.tail.tail.tail.headD .unk).toInt
noncomputable def G1 : Env := { pure := [(27, evF Try.prog G0 [] Try.f27), (22, evF Try.prog G0 [] Try.f22), (21, evF Try.prog G0 [] Try.f21), (13, evF Try.prog G0 [] Try.f13), (33, F33), (29, F29), (28, F28), (19, F19)] }
theorem g1 : GOK Try.prog G1 := GOK.also (GOK.also (GOK.also (GOK.also (GOK.also (GOK.also (GOK.also (GOK.also g0 ok19) ok28) ok29) ok33) (inl g0 Try.func13 (by kernel_rfl))) (inl g0 Try.func21 (by kernel_rfl))) (inl g0 Try.func22 (by kernel_rfl))) (inl g0 Try.func27 (by kernel_rfl))

/-! SenderAt -/
noncomputable def b12 : Code := ((Try.f12.body.map loopsOf).getD []).headD .skip
def isN (s : List UInt8) (es : List AV) (i : Nat) : Bool := nmOf (es.getD i .unk) == s
def L12 : List AV → List (Option Row) → Tr LOut
  | [.slv (.agg [.str, .int .i64, .int .i64, .int .i64]) es, .str s, .int .i64 z, .int .i64 i], [] =>
    .gd (cnt es.length i es.length) (sT (isN s es) es.length (fun q => .leaf (.ret, [.slv sS es, .str s, .int .i64 (q : Nat), .int .i64 (q : Nat)], [])) (.leaf (.exit 0, [.slv sS es, .str s, .int .i64 z, .int .i64 es.length], [])) i.toNat)
  | _, _ => .no
def l12 : Ev.Loop := ⟨{ len := 20, slots := [0, 1, 4, 5] }, ofL L12⟩
def μ12 (vs : List AV) (_ : List (Option Row)) : Nat := match vs with
  | [.slv _ es, _, _, .int _ i] => ((es.length : Int) - i).toNat
  | _ => 0
theorem loop12 : LoopOK Try.prog G1 [(2, l12)] b12 l12 := by
  refine loopT g1.natOK rfl (KOK.nil (by kernel_rfl)) μ12 (fun ρ vs rs k r h => ?_)
  unfold L12 at h
  split at h
  · rename_i es s z i
    obtain ⟨hc, hk⟩ := gd_some h
    obtain ⟨_, hs, j, rfl, hj⟩ := cnt_spec hc
    rw [Int.toNat_natCast] at hk
    refine Eq.trans (b := bif decide ((↑j : Int) < (↑es.length : Int)) then bif inb (↑j : Int) es.length then bif (nmOf (es.getD j AV.unk)) == s then k Ex.ret [AV.slv (Sh.agg [Sh.str, Sh.int IntKind.i64, Sh.int IntKind.i64, Sh.int IntKind.i64]) es, AV.str s, AV.int IntKind.i64 (↑j : Int), AV.int IntKind.i64 (↑j : Int)] [] else bif decide (((↑es.length : Int) - IntKind.i64.wrap ((↑j : Int) + (1 : Int))).toNat < ((↑es.length : Int) - (↑j : Int)).toNat) then bif cnt (↑es.length : Int) (IntKind.i64.wrap ((↑j : Int) + (1 : Int))) es.length then bif (findN (isN s es) es.length (IntKind.i64.wrap ((↑j : Int) + (1 : Int))).toNat).isSome then k Ex.ret [AV.slv (Sh.agg [Sh.str, Sh.int IntKind.i64, Sh.int IntKind.i64, Sh.int IntKind.i64]) es, AV.str s, AV.int IntKind.i64 (↑((findN (isN s es) es.length (IntKind.i64.wrap ((↑j : Int) + (1 : Int))).toNat).getD (0 : Nat)) : Int), AV.int IntKind.i64 (↑((findN (isN s es) es.length (IntKind.i64.wrap ((↑j : Int) + (1 : Int))).toNat).getD (0 : Nat)) : Int)] [] else k (Ex.exit (0 : Nat)) [AV.slv (Sh.agg [Sh.str, Sh.int IntKind.i64, Sh.int IntKind.i64, Sh.int IntKind.i64]) es, AV.str s, AV.int IntKind.i64 z, AV.int IntKind.i64 (↑es.length : Int)] [] else none else none else none else k (Ex.exit (0 : Nat)) [AV.slv (Sh.agg [Sh.str, Sh.int IntKind.i64, Sh.int IntKind.i64, Sh.int IntKind.i64]) es, AV.str s, AV.int IntKind.i64 z, AV.int IntKind.i64 (↑j : Int)] []) (by kernel_rfl) ?_
    rw [← hk]
    by_cases hlt : j < es.length
    · obtain ⟨e1, e2, e3, e4, e5⟩ := cnt_facts hlt hs
      rw [sT_step _ _ _ _ _ hlt]
      simp only [e1, e2, e3, e4, e5, cond_true, Int.toNat_natCast]
      rfl
    · obtain rfl : j = es.length := by omega
      rw [decide_eq_false (by omega), sT_end]
      rfl
  · cases h
def F12 : List AV → Tr AV
  | [.slv (.agg [.str, .int .i64, .int .i64, .int .i64]) es, .str s] => .gd (small es.length) (.leaf (.int .i64 (idxZ (findN (isN s es) es.length 0))))
  | _ => .no
theorem idxZ_br {α : Type} (o : Option Nat) (k : AV → α) : (bif o.isSome then k (.int .i64 ((o.getD 0 : Nat) : Int)) else k (.int .i64 (-1))) = k (.int .i64 (idxZ o)) := by cases o <;> rfl
theorem ok12 : SumOK Try.prog 12 (ofT F12) ∧ SNat (ofT F12) := by
  refine fn1 (K := [(2, l12)]) (b := b12) (l := l12) g1 Try.func12 (by kernel_rfl) (by kernel_rfl) loop12 fun ρ avs k r h => ?_
  unfold F12 at h
  split at h
  · rename_i es s
    obtain ⟨hc, hk⟩ := gd_some h
    refine Eq.trans (b := bif cnt (↑es.length : Int) (0 : Int) es.length then bif (findN (isN s es) es.length (Int.toNat (0 : Int))).isSome then k (AV.int IntKind.i64 (↑((findN (isN s es) es.length (Int.toNat (0 : Int))).getD (0 : Nat)) : Int)) else k (AV.int IntKind.i64 (-1 : Int)) else none) (by kernel_rfl) ?_
    rw [← hk, cnt_zero hc]
    exact idxZ_br _ k
  · cases h

/-! SameSenders -/
noncomputable def b15 : Code := ((Try.f15.body.map loopsOf).getD []).headD .skip
def difS (xs ys : List AV) (i : Nat) : Bool := !(nmOf (xs.getD i .unk) == nmOf (ys.getD i .unk) && (gOf (xs.getD i .unk) == gOf (ys.getD i .unk) && (bOf (xs.getD i .unk) == bOf (ys.getD i .unk) && (dOf (xs.getD i .unk) == dOf (ys.getD i .unk) && true))))
def L15 : List AV → List (Option Row) → Tr LOut
  | [.slv (.agg [.str, .int .i64, .int .i64, .int .i64]) xs, .slv (.agg [.str, .int .i64, .int .i64, .int .i64]) ys, .bool z, .int .i64 i], [] =>
    .gd (cnt xs.length i xs.length && Nat.beq xs.length ys.length) (sT (difS xs ys) xs.length (fun q => .leaf (.ret, [.slv sS xs, .slv sS ys, .bool false, .int .i64 (q : Nat)], [])) (.leaf (.exit 0, [.slv sS xs, .slv sS ys, .bool z, .int .i64 xs.length], [])) i.toNat)
  | _, _ => .no
def l15 : Ev.Loop := ⟨{ len := 26, slots := [0, 1, 4, 5] }, ofL L15⟩
theorem loop15 : LoopOK Try.prog G1 [(4, l15)] b15 l15 := by
  refine loopT g1.natOK rfl (KOK.nil (by kernel_rfl)) μ12 (fun ρ vs rs k r h => ?_)
  unfold L15 at h
  split at h
  · rename_i xs ys z i
    obtain ⟨hc, hk⟩ := gd_some h
    simp only [Bool.and_eq_true] at hc
    obtain ⟨hc, hp⟩ := hc
    have hp' : xs.length = ys.length := Nat.eq_of_beq_eq_true hp
    obtain ⟨_, hs, j, rfl, hj⟩ := cnt_spec hc
    rw [Int.toNat_natCast] at hk
    refine Eq.trans (b := bif decide ((↑j : Int) < (↑xs.length : Int)) then bif inb (↑j : Int) xs.length then bif inb (↑j : Int) ys.length then bif !((nmOf (xs.getD j AV.unk)) == (nmOf (ys.getD j AV.unk)) && ((gOf (xs.getD j AV.unk)) == (gOf (ys.getD j AV.unk)) && ((bOf (xs.getD j AV.unk)) == (bOf (ys.getD j AV.unk)) && ((dOf (xs.getD j AV.unk)) == (dOf (ys.getD j AV.unk)) && true)))) then k Ex.ret [AV.slv (Sh.agg [Sh.str, Sh.int IntKind.i64, Sh.int IntKind.i64, Sh.int IntKind.i64]) xs, AV.slv (Sh.agg [Sh.str, Sh.int IntKind.i64, Sh.int IntKind.i64, Sh.int IntKind.i64]) ys, AV.bool false, AV.int IntKind.i64 (↑j : Int)] [] else bif decide (((↑xs.length : Int) - IntKind.i64.wrap ((↑j : Int) + (1 : Int))).toNat < ((↑xs.length : Int) - (↑j : Int)).toNat) then bif cnt (↑xs.length : Int) (IntKind.i64.wrap ((↑j : Int) + (1 : Int))) xs.length && xs.length.beq ys.length then bif (findN (difS xs ys) xs.length (IntKind.i64.wrap ((↑j : Int) + (1 : Int))).toNat).isSome then k Ex.ret [AV.slv (Sh.agg [Sh.str, Sh.int IntKind.i64, Sh.int IntKind.i64, Sh.int IntKind.i64]) xs, AV.slv (Sh.agg [Sh.str, Sh.int IntKind.i64, Sh.int IntKind.i64, Sh.int IntKind.i64]) ys, AV.bool false, AV.int IntKind.i64 (↑((findN (difS xs ys) xs.length (IntKind.i64.wrap ((↑j : Int) + (1 : Int))).toNat).getD (0 : Nat)) : Int)] [] else k (Ex.exit (0 : Nat)) [AV.slv (Sh.agg [Sh.str, Sh.int IntKind.i64, Sh.int IntKind.i64, Sh.int IntKind.i64]) xs, AV.slv (Sh.agg [Sh.str, Sh.int IntKind.i64, Sh.int IntKind.i64, Sh.int IntKind.i64]) ys, AV.bool z, AV.int IntKind.i64 (↑xs.length : Int)] [] else none else none else none else none else k (Ex.exit (0 : Nat)) [AV.slv (Sh.agg [Sh.str, Sh.int IntKind.i64, Sh.int IntKind.i64, Sh.int IntKind.i64]) xs, AV.slv (Sh.agg [Sh.str, Sh.int IntKind.i64, Sh.int IntKind.i64, Sh.int IntKind.i64]) ys, AV.bool z, AV.int IntKind.i64 (↑j : Int)] []) (by kernel_rfl) ?_
    rw [← hk]
    by_cases hlt : j < xs.length
    · obtain ⟨e1, e2, e3, e4, e5⟩ := cnt_facts hlt hs
      rw [sT_step _ _ _ _ _ hlt]
      have e6 : inb (j : Int) ys.length = true := hp' ▸ e2
      simp only [e1, e2, e3, e4, e5, e6, hp, cond_true, Int.toNat_natCast, Bool.and_self]
      rfl
    · obtain rfl : j = xs.length := by omega
      rw [decide_eq_false (by omega), sT_end]
      rfl
  · cases h
def same (xs ys : List AV) : Bool := Nat.beq xs.length ys.length && !(findN (difS xs ys) xs.length 0).isSome
def F15 : List AV → Tr AV
  | [.slv (.agg [.str, .int .i64, .int .i64, .int .i64]) xs, .slv (.agg [.str, .int .i64, .int .i64, .int .i64]) ys] => .gd (small xs.length) (.leaf (.bool (same xs ys)))
  | _ => .no
theorem ok15 : SumOK Try.prog 15 (ofT F15) ∧ SNat (ofT F15) := by
  refine fn1 (K := [(4, l15)]) (b := b15) (l := l15) g1 Try.func15 (by kernel_rfl) (by kernel_rfl) loop15 fun ρ avs k r h => ?_
  unfold F15 at h
  split at h
  · rename_i xs ys
    obtain ⟨hc, hk⟩ := gd_some h
    refine Eq.trans (b := bif (↑xs.length : Int) != (↑ys.length : Int) then k (AV.bool false) else bif cnt (↑xs.length : Int) (0 : Int) xs.length && xs.length.beq ys.length then bif (findN (difS xs ys) xs.length (Int.toNat (0 : Int))).isSome then k (AV.bool false) else k (AV.bool true) else none) (by kernel_rfl) ?_
    rw [← hk, cnt_zero hc]
    unfold same
    by_cases hp : xs.length = ys.length
    · have hp2 : Nat.beq ys.length ys.length = true := Nat.beq_refl _
      simp only [hp, hp2, bne_self_eq_false, Bool.true_and, Bool.and_self, cond_true, cond_false]
      show (bif (findN (difS xs ys) ys.length 0).isSome then k (.bool false) else k (.bool true)) = k (.bool (!(findN (difS xs ys) ys.length 0).isSome))
      cases (findN (difS xs ys) ys.length 0).isSome <;> rfl
    · have hp2 : Nat.beq xs.length ys.length = false := by
        cases hb : Nat.beq xs.length ys.length
        · rfl
        · exact absurd (Nat.eq_of_beq_eq_true hb) hp
      have hp3 : ((xs.length : Int) != (ys.length : Int)) = true := by simp; omega
      rw [hp2, hp3]
      rfl
  · cases h

/-! Left -/
noncomputable def b32 : Code := ((Try.f32.body.map loopsOf).getD []).headD .skip
def hv : Nat → Int → Int → Int × Int
  | 0, n, i => (n, i)
  | f + 1, n, i => bif decide (n > 0) then hv f (n / 2) (i + 1) else (n, i)
theorem hv_succ (f : Nat) (n i : Int) : hv (f + 1) n i = bif decide (n > 0) then hv f (n / 2) (i + 1) else (n, i) := rfl
theorem hv_fst : ∀ (f : Nat) (n i : Int), 0 ≤ n → (hv f n i).1 = n / 2 ^ f
  | 0, n, i, _ => by simp [hv]
  | f + 1, n, i, h => by
    unfold hv
    by_cases h0 : n > 0
    · rw [decide_eq_true h0, cond_true, hv_fst f (n / 2) (i + 1) (by omega), Int.ediv_ediv_of_nonneg (by decide), Int.pow_succ, Int.mul_comm]
    · rw [decide_eq_false h0, cond_false]
      obtain rfl : n = 0 := by omega
      simp
def L32 : List AV → List (Option Row) → Tr LOut
  | [.int .i64 n, .int .i64 d, .int .i64 z, .int .i64 i], [] =>
    .gd (decide (0 ≤ n ∧ n ≤ 1000000 ∧ 0 ≤ i ∧ i ≤ d ∧ d ≤ 10000000)) (.leaf (.exit 0, [.int .i64 (hv (d - i).toNat n i).1, .int .i64 d, .int .i64 z, .int .i64 (hv (d - i).toNat n i).2], []))
  | _, _ => .no
def l32 : Ev.Loop := ⟨{ len := 18, slots := [0, 1, 4, 5] }, ofL L32⟩
def μ32 (vs : List AV) (_ : List (Option Row)) : Nat := match vs with
  | [_, .int _ d, _, .int _ i] => (d - i).toNat
  | _ => 0
theorem loop32 : LoopOK Try.prog G1 [(2, l32)] b32 l32 := by
  refine loopT g1.natOK rfl (KOK.nil (by kernel_rfl)) μ32 (fun ρ vs rs k r h => ?_)
  unfold L32 at h
  split at h
  · rename_i n d z i
    obtain ⟨hc, hk⟩ := gd_some h
    have hc' := of_decide_eq_true hc
    obtain ⟨c1, c2, c3, c4, c5⟩ := hc'
    refine Eq.trans (b := bif decide (i < d) then bif decide (n > (0 : Int)) then bif decide ((d - IntKind.i64.wrap (i + (1 : Int))).toNat < (d - i).toNat) then bif decide ((0 : Int) ≤ IntKind.i64.wrap (n.tdiv (2 : Int)) ∧ IntKind.i64.wrap (n.tdiv (2 : Int)) ≤ (1000000 : Int) ∧ (0 : Int) ≤ IntKind.i64.wrap (i + (1 : Int)) ∧ IntKind.i64.wrap (i + (1 : Int)) ≤ d ∧ d ≤ (10000000 : Int)) then k (Ex.exit (0 : Nat)) [AV.int IntKind.i64 (hv (d - IntKind.i64.wrap (i + (1 : Int))).toNat (IntKind.i64.wrap (n.tdiv (2 : Int))) (IntKind.i64.wrap (i + (1 : Int)))).fst, AV.int IntKind.i64 d, AV.int IntKind.i64 z, AV.int IntKind.i64 (hv (d - IntKind.i64.wrap (i + (1 : Int))).toNat (IntKind.i64.wrap (n.tdiv (2 : Int))) (IntKind.i64.wrap (i + (1 : Int)))).snd] [] else none else none else k (Ex.exit (0 : Nat)) [AV.int IntKind.i64 n, AV.int IntKind.i64 d, AV.int IntKind.i64 z, AV.int IntKind.i64 i] [] else k (Ex.exit (0 : Nat)) [AV.int IntKind.i64 n, AV.int IntKind.i64 d, AV.int IntKind.i64 z, AV.int IntKind.i64 i] []) (by kernel_rfl) ?_
    rw [← hk]
    by_cases hlt : i < d
    · have hf : (d - i).toNat = (d - (i + 1)).toNat + 1 := by omega
      have e1 : IntKind.i64.wrap (n.tdiv 2) = n / 2 := by rw [Int.tdiv_eq_ediv_of_nonneg c1, wrap_mid _ (by omega) (by omega)]
      have e2 : IntKind.i64.wrap (i + 1) = i + 1 := wrap_mid _ (by omega) (by omega)
      rw [e1, e2, hf, decide_eq_true hlt]
      show _ = k (.exit 0) [.int .i64 (hv ((d - (i + 1)).toNat + 1) n i).1, .int .i64 d, .int .i64 z, .int .i64 (hv ((d - (i + 1)).toNat + 1) n i).2] []
      rw [hv_succ]
      by_cases h0 : n > 0
      · rw [decide_eq_true h0]
        simp only [cond_true]
        refine Eq.trans (cond_t (by first | exact decide_eq_true (by omega) | exact inb_true (by omega) (by omega) | (simp only [Bool.and_eq_true, decide_eq_true_eq]; omega))) ?_
        refine Eq.trans (cond_t (by first | exact decide_eq_true (by omega) | exact inb_true (by omega) (by omega) | (simp only [Bool.and_eq_true, decide_eq_true_eq]; omega))) ?_
        rfl
      · rw [decide_eq_false h0]
        rfl
    · obtain rfl : i = d := by omega
      rw [decide_eq_false (by omega), show (i - i).toNat = 0 from by omega]
      rfl
  · cases h
def F32 : List AV → Tr AV
  | [.int .i64 n, .int .i64 d] => .gd (decide (0 ≤ n ∧ n ≤ 1000000 ∧ 0 ≤ d ∧ d ≤ 10000000)) (.leaf (.int .i64 (halve n d)))
  | _ => .no
theorem ok32 : SumOK Try.prog 32 (ofT F32) ∧ SNat (ofT F32) := by
  refine fn1 (K := [(2, l32)]) (b := b32) (l := l32) g1 Try.func32 (by kernel_rfl) (by kernel_rfl) loop32 fun ρ avs k r h => ?_
  unfold F32 at h
  split at h
  · rename_i n d
    obtain ⟨hc, hk⟩ := gd_some h
    obtain ⟨c1, c2, c3, c4⟩ := of_decide_eq_true hc
    refine Eq.trans (b := bif decide ((0 : Int) ≤ n ∧ n ≤ (1000000 : Int) ∧ (0 : Int) ≤ (0 : Int) ∧ (0 : Int) ≤ d ∧ d ≤ (10000000 : Int)) then k (AV.int IntKind.i64 (hv (d - (0 : Int)).toNat n (0 : Int)).fst) else none) (by kernel_rfl) ?_
    rw [← hk]
    refine Eq.trans (cond_t (by first | exact decide_eq_true (by omega) | exact inb_true (by omega) (by omega) | (simp only [Bool.and_eq_true, decide_eq_true_eq]; omega))) ?_
    rw [hv_fst _ _ _ c1, show (d - 0).toNat = d.toNat from by omega]
    rfl
  · cases h

/-! Search -/
noncomputable def G35 : Env := { pure := [(41, Fcmp)] }
theorem g35 : GOK Try.prog G35 := GOK.also g0 (cmp_ok Try.func41 (by kernel_rfl) (by kernel_rfl) (by kernel_rfl) (by kernel_rfl))
noncomputable def G36 : Env := { pure := [(39, evF Try.prog G35 [] Try.f39)] }
theorem g36 : GOK Try.prog G36 := GOK.also g0 (inl g35 Try.func39 (by kernel_rfl))
noncomputable def G37 : Env := { pure := [(36, evF Try.prog G36 [] Try.f36)] }
theorem g37 : GOK Try.prog G37 := GOK.also g0 (inl g36 Try.func36 (by kernel_rfl))
noncomputable def G38 : Env := { pure := [(35, evF Try.prog G37 [] Try.f35)] }
theorem g38 : GOK Try.prog G38 := GOK.also g0 (inl g37 Try.func35 (by kernel_rfl))
noncomputable def b34 : Code := ((Try.f34.body.map loopsOf).getD []).headD .skip
def ltN (s : List UInt8) (es : List AV) (i : Nat) : Bool := decide (cmpS (nmOf (es.getD i .unk)) s < 0)
def L34 : List AV → List (Option Row) → Tr LOut
  | [.slv (.agg [.str, .int .i64, .int .i64, .int .i64]) es, .str s, .fn 35 [], .int .i64 z, .bool y, .int .i64 n, .int .i64 i, .int .i64 j], [] =>
    .gd (decide (0 ≤ i) && (decide (i ≤ j) && (decide (j ≤ es.length) && decide (es.length ≤ 1000000)))) (.leaf (.exit 0, [.slv sS es, .str s, .fn 35 [], .int .i64 z, .bool y, .int .i64 n, .int .i64 (bs (ltN s es) (j.toNat - i.toNat) i.toNat j.toNat : Nat), .int .i64 (bs (ltN s es) (j.toNat - i.toNat) i.toNat j.toNat : Nat)], []))
  | _, _ => .no
def l34 : Ev.Loop := ⟨{ len := 49, slots := [0, 1, 2, 6, 7, 8, 9, 10] }, ofL L34⟩
def μ34 (vs : List AV) (_ : List (Option Row)) : Nat := match vs with
  | [_, _, _, _, _, _, .int _ i, .int _ j] => (j - i).toNat
  | _ => 0
theorem loop34 : LoopOK Try.prog G38 [(3, l34)] b34 l34 := by
  refine loopT g38.natOK rfl (KOK.nil (by kernel_rfl)) μ34 (fun ρ vs rs k r h => ?_)
  unfold L34 at h
  split at h
  · rename_i es s z y n i' j'
    obtain ⟨hc, hk⟩ := gd_some h
    simp only [Bool.and_eq_true, decide_eq_true_eq] at hc
    obtain ⟨c1, c2, c3, c4⟩ := hc
    obtain ⟨i, rfl⟩ : ∃ i : Nat, i' = i := ⟨i'.toNat, by omega⟩
    obtain ⟨j, rfl⟩ : ∃ j : Nat, j' = j := ⟨j'.toNat, by omega⟩
    simp only [Int.toNat_natCast] at hk
    refine Eq.trans (b := bif decide ((↑i : Int) < (↑j : Int)) then bif inb (IntKind.i64.wrap ((IntKind.u64.wrap (IntKind.i64.wrap ((↑i : Int) + (↑j : Int)))).fdiv ((2 : Int) ^ min (Int.toNat (1 : Int)) IntKind.u64.bits))) es.length then bif decide (cmpS (nmOf (es.getD (IntKind.i64.wrap ((IntKind.u64.wrap (IntKind.i64.wrap ((↑i : Int) + (↑j : Int)))).fdiv ((2 : Int) ^ min (Int.toNat (1 : Int)) IntKind.u64.bits))).toNat AV.unk)) s < (0 : Int)) then bif decide (((↑j : Int) - IntKind.i64.wrap (IntKind.i64.wrap ((IntKind.u64.wrap (IntKind.i64.wrap ((↑i : Int) + (↑j : Int)))).fdiv ((2 : Int) ^ min (Int.toNat (1 : Int)) IntKind.u64.bits)) + (1 : Int))).toNat < ((↑j : Int) - (↑i : Int)).toNat) then bif decide ((0 : Int) ≤ IntKind.i64.wrap (IntKind.i64.wrap ((IntKind.u64.wrap (IntKind.i64.wrap ((↑i : Int) + (↑j : Int)))).fdiv ((2 : Int) ^ min (Int.toNat (1 : Int)) IntKind.u64.bits)) + (1 : Int))) && (decide (IntKind.i64.wrap (IntKind.i64.wrap ((IntKind.u64.wrap (IntKind.i64.wrap ((↑i : Int) + (↑j : Int)))).fdiv ((2 : Int) ^ min (Int.toNat (1 : Int)) IntKind.u64.bits)) + (1 : Int)) ≤ (↑j : Int)) && (decide ((↑j : Int) ≤ (↑es.length : Int)) && decide (es.length ≤ (1000000 : Nat)))) then k (Ex.exit (0 : Nat)) [AV.slv (Sh.agg [Sh.str, Sh.int IntKind.i64, Sh.int IntKind.i64, Sh.int IntKind.i64]) es, AV.str s, AV.fn (35 : Nat) [], AV.int IntKind.i64 z, AV.bool y, AV.int IntKind.i64 n, AV.int IntKind.i64 (↑(bs (ltN s es) (j - (IntKind.i64.wrap (IntKind.i64.wrap ((IntKind.u64.wrap (IntKind.i64.wrap ((↑i : Int) + (↑j : Int)))).fdiv ((2 : Int) ^ min (Int.toNat (1 : Int)) IntKind.u64.bits)) + (1 : Int))).toNat) (IntKind.i64.wrap (IntKind.i64.wrap ((IntKind.u64.wrap (IntKind.i64.wrap ((↑i : Int) + (↑j : Int)))).fdiv ((2 : Int) ^ min (Int.toNat (1 : Int)) IntKind.u64.bits)) + (1 : Int))).toNat j) : Int), AV.int IntKind.i64 (↑(bs (ltN s es) (j - (IntKind.i64.wrap (IntKind.i64.wrap ((IntKind.u64.wrap (IntKind.i64.wrap ((↑i : Int) + (↑j : Int)))).fdiv ((2 : Int) ^ min (Int.toNat (1 : Int)) IntKind.u64.bits)) + (1 : Int))).toNat) (IntKind.i64.wrap (IntKind.i64.wrap ((IntKind.u64.wrap (IntKind.i64.wrap ((↑i : Int) + (↑j : Int)))).fdiv ((2 : Int) ^ min (Int.toNat (1 : Int)) IntKind.u64.bits)) + (1 : Int))).toNat j) : Int)] [] else none else none else bif decide ((IntKind.i64.wrap ((IntKind.u64.wrap (IntKind.i64.wrap ((↑i : Int) + (↑j : Int)))).fdiv ((2 : Int) ^ min (Int.toNat (1 : Int)) IntKind.u64.bits)) - (↑i : Int)).toNat < ((↑j : Int) - (↑i : Int)).toNat) then bif decide ((0 : Int) ≤ (↑i : Int)) && (decide ((↑i : Int) ≤ IntKind.i64.wrap ((IntKind.u64.wrap (IntKind.i64.wrap ((↑i : Int) + (↑j : Int)))).fdiv ((2 : Int) ^ min (Int.toNat (1 : Int)) IntKind.u64.bits))) && (decide (IntKind.i64.wrap ((IntKind.u64.wrap (IntKind.i64.wrap ((↑i : Int) + (↑j : Int)))).fdiv ((2 : Int) ^ min (Int.toNat (1 : Int)) IntKind.u64.bits)) ≤ (↑es.length : Int)) && decide (es.length ≤ (1000000 : Nat)))) then k (Ex.exit (0 : Nat)) [AV.slv (Sh.agg [Sh.str, Sh.int IntKind.i64, Sh.int IntKind.i64, Sh.int IntKind.i64]) es, AV.str s, AV.fn (35 : Nat) [], AV.int IntKind.i64 z, AV.bool y, AV.int IntKind.i64 n, AV.int IntKind.i64 (↑(bs (ltN s es) ((IntKind.i64.wrap ((IntKind.u64.wrap (IntKind.i64.wrap ((↑i : Int) + (↑j : Int)))).fdiv ((2 : Int) ^ min (Int.toNat (1 : Int)) IntKind.u64.bits))).toNat - i) i (IntKind.i64.wrap ((IntKind.u64.wrap (IntKind.i64.wrap ((↑i : Int) + (↑j : Int)))).fdiv ((2 : Int) ^ min (Int.toNat (1 : Int)) IntKind.u64.bits))).toNat) : Int), AV.int IntKind.i64 (↑(bs (ltN s es) ((IntKind.i64.wrap ((IntKind.u64.wrap (IntKind.i64.wrap ((↑i : Int) + (↑j : Int)))).fdiv ((2 : Int) ^ min (Int.toNat (1 : Int)) IntKind.u64.bits))).toNat - i) i (IntKind.i64.wrap ((IntKind.u64.wrap (IntKind.i64.wrap ((↑i : Int) + (↑j : Int)))).fdiv ((2 : Int) ^ min (Int.toNat (1 : Int)) IntKind.u64.bits))).toNat) : Int)] [] else none else none else none else k (Ex.exit (0 : Nat)) [AV.slv (Sh.agg [Sh.str, Sh.int IntKind.i64, Sh.int IntKind.i64, Sh.int IntKind.i64]) es, AV.str s, AV.fn (35 : Nat) [], AV.int IntKind.i64 z, AV.bool y, AV.int IntKind.i64 n, AV.int IntKind.i64 (↑i : Int), AV.int IntKind.i64 (↑j : Int)] []) (by kernel_rfl) ?_
    rw [← hk]
    by_cases hlt : i < j
    · have hm := mid_eq i j (by omega)
      rw [bs_step _ i j hlt, hm]
      have hm1 : i ≤ (i + j) / 2 ∧ (i + j) / 2 < j := by omega
      generalize (i + j) / 2 = m at hm1
      have e1 : IntKind.i64.wrap ((m : Int) + 1) = ((m + 1 : Nat) : Int) := by rw [wrap_mid _ (by omega) (by omega)]; omega
      rw [e1]
      simp only [Int.toNat_natCast]
      refine Eq.trans (cond_t (by first | exact decide_eq_true (by omega) | exact inb_true (by omega) (by omega) | (simp only [Bool.and_eq_true, decide_eq_true_eq]; omega))) ?_
      refine Eq.trans (cond_t (by first | exact decide_eq_true (by omega) | exact inb_true (by omega) (by omega) | (simp only [Bool.and_eq_true, decide_eq_true_eq]; omega))) ?_
      show (bif ltN s es m then _ else _) = _
      cases ltN s es m
      · simp only [cond_false]
        refine Eq.trans (cond_t (by first | exact decide_eq_true (by omega) | exact inb_true (by omega) (by omega) | (simp only [Bool.and_eq_true, decide_eq_true_eq]; omega))) ?_
        refine Eq.trans (cond_t (by first | exact decide_eq_true (by omega) | exact inb_true (by omega) (by omega) | (simp only [Bool.and_eq_true, decide_eq_true_eq]; omega))) ?_
        rfl
      · simp only [cond_true]
        refine Eq.trans (cond_t (by first | exact decide_eq_true (by omega) | exact inb_true (by omega) (by omega) | (simp only [Bool.and_eq_true, decide_eq_true_eq]; omega))) ?_
        refine Eq.trans (cond_t (by first | exact decide_eq_true (by omega) | exact inb_true (by omega) (by omega) | (simp only [Bool.and_eq_true, decide_eq_true_eq]; omega))) ?_
        rfl
    · obtain rfl : i = j := by omega
      rw [decide_eq_false (by omega), show i - i = 0 from by omega]
      rfl
  · cases h
def at34 (s : List UInt8) (es : List AV) : Nat := bs (ltN s es) es.length 0 es.length
def is34 (s : List UInt8) (es : List AV) : Bool := decide (at34 s es < es.length) && nmOf (es.getD (at34 s es) .unk) == s
def F34 : List AV → Tr AV
  | [.slv (.agg [.str, .int .i64, .int .i64, .int .i64]) es, .str s, .fn 35 []] => .gd (decide (es.length ≤ 1000000)) (.leaf (.tup [.int .i64 (at34 s es : Nat), .bool (is34 s es)]))
  | _ => .no
theorem ok34 : SumOK Try.prog 34 (ofT F34) ∧ SNat (ofT F34) := by
  refine fn1 (K := [(3, l34)]) (b := b34) (l := l34) g38 Try.func34 (by kernel_rfl) (by kernel_rfl) loop34 fun ρ avs k r h => ?_
  unfold F34 at h
  split at h
  · rename_i es s
    obtain ⟨hc, hk⟩ := gd_some h
    have hc' := of_decide_eq_true hc
    refine Eq.trans (b := bif decide ((0 : Int) ≤ (0 : Int)) && (decide ((0 : Int) ≤ (↑es.length : Int)) && (decide ((↑es.length : Int) ≤ (↑es.length : Int)) && decide (es.length ≤ (1000000 : Nat)))) then bif decide ((↑(bs (ltN s es) ((↑es.length : Int).toNat - Int.toNat (0 : Int)) (Int.toNat (0 : Int)) (↑es.length : Int).toNat) : Int) < (↑es.length : Int)) then bif inb (↑(bs (ltN s es) ((↑es.length : Int).toNat - Int.toNat (0 : Int)) (Int.toNat (0 : Int)) (↑es.length : Int).toNat) : Int) es.length then k (AV.tup [AV.int IntKind.i64 (↑(bs (ltN s es) ((↑es.length : Int).toNat - Int.toNat (0 : Int)) (Int.toNat (0 : Int)) (↑es.length : Int).toNat) : Int), AV.bool (cmpS (nmOf (es.getD (↑(bs (ltN s es) ((↑es.length : Int).toNat - Int.toNat (0 : Int)) (Int.toNat (0 : Int)) (↑es.length : Int).toNat) : Int).toNat AV.unk)) s == (0 : Int))]) else none else k (AV.tup [AV.int IntKind.i64 (↑(bs (ltN s es) ((↑es.length : Int).toNat - Int.toNat (0 : Int)) (Int.toNat (0 : Int)) (↑es.length : Int).toNat) : Int), AV.bool false]) else none) (by kernel_rfl) ?_
    rw [← hk]
    refine Eq.trans (cond_t (by first | exact decide_eq_true (by omega) | exact inb_true (by omega) (by omega) | (simp only [Bool.and_eq_true, decide_eq_true_eq]; omega))) ?_
    have hle : at34 s es ≤ es.length := (bs_le (ltN s es) es.length 0 es.length (Nat.zero_le _)).1
    show (fun m : Nat => (bif decide ((m : Int) < es.length) then (bif inb m es.length then k (.tup [.int .i64 m, .bool (cmpS (nmOf (es.getD m .unk)) s == 0)]) else none) else k (.tup [.int .i64 m, .bool false]))) (at34 s es) = k (.tup [.int .i64 (at34 s es : Nat), .bool (is34 s es)])
    unfold is34
    generalize at34 s es = m at hle
    dsimp only
    by_cases hlt : m < es.length
    · rw [decide_eq_true (by omega : (m : Int) < es.length), decide_eq_true hlt, inb_true (by omega) (by omega)]
      simp only [cond_true, Bool.true_and, Int.toNat_natCast]
      rw [← cmpS_zero]
    · rw [decide_eq_false (by omega : ¬ (m : Int) < es.length), decide_eq_false hlt]
      rfl
  · cases h

/-! Validate, SendersFault -/
def codeB (a b c d e : Bool) : Int := bif a then 10 else bif b then 3 else bif c then 3 else bif d then 3 else bif e then 19 else 0
def ordN (es : List AV) (x : AV) (i : Nat) : Bool := decide ((i : Int) > 0) && (Op.bytesLess (nmOf x) (nmOf (es.getD (i - 1) .unk)) || nmOf x == nmOf (es.getD (i - 1) .unk))
def codeX (es : List AV) (x : AV) (i : Nat) : Int := codeB (!nmB (nmOf x)) (!inR (gOf x) 0 1000000) (!inR (bOf x) 0 1000000) (!inR (dOf x) (-795365) 795365) (ordN es x i)
def codeN (es xs : List AV) (i : Nat) : Int := codeX es (xs.getD i .unk) i
theorem inR_not (n a b : Int) : (!inR n a b) = (decide (n < a) || decide (n > b)) := by
  unfold inR
  rw [Bool.not_and, ← decide_not, ← decide_not]
  congr 1 <;> (apply decide_eq_decide.2; omega)
noncomputable def b9 : Code := ((Try.f9.body.map loopsOf).getD []).headD .skip
def L9 : List AV → List (Option Row) → Tr LOut
  | [.slv (.agg [.str, .int .i64, .int .i64, .int .i64]) es, .ptr 0 0, .slv (.agg [.str, .int .i64, .int .i64, .int .i64]) xs, .int .i64 n, .int .i64 i], [some (.box false [.int .i64 0, .int .i64 0])] =>
    .gd (cnt n i es.length && Nat.beq es.length xs.length) (sT (fun i => codeN es xs i != 0) es.length (fun q => .leaf (.ret, [.slv sS es, .ptr 0 0, .slv sS xs, .int .i64 n, .int .i64 (q : Nat)], [some (.box false [.int .i64 (codeN es xs q), .int .i64 q])]))
     (.leaf (.exit 0, [.slv sS es, .ptr 0 0, .slv sS xs, .int .i64 n, .int .i64 es.length], [some (.box false [.int .i64 0, .int .i64 0])])) i.toNat)
  | _, _ => .no
def l9 : Ev.Loop := ⟨{ len := 64, slots := [0, 2, 9, 10, 11], rows := [0] }, ofL L9⟩
def μ9 (vs : List AV) (_ : List (Option Row)) : Nat := match vs with
  | [_, _, _, .int _ d, .int _ i] => (d - i).toNat
  | _ => 0
theorem loop9 : LoopOK Try.prog G1 [(4, l9)] b9 l9 := by
  refine loopT g1.natOK rfl (KOK.nil (by kernel_rfl)) μ9 (fun ρ vs rs k r h => ?_)
  unfold L9 at h
  split at h
  · rename_i es xs n i
    obtain ⟨hc, hk⟩ := gd_some h
    simp only [Bool.and_eq_true] at hc
    obtain ⟨hc, hp⟩ := hc
    have hp' : es.length = xs.length := Nat.eq_of_beq_eq_true hp
    obtain ⟨rfl, hs, j, rfl, hj⟩ := cnt_spec hc
    rw [Int.toNat_natCast] at hk
    refine Eq.trans (b := bif decide ((↑j : Int) < (↑es.length : Int)) then bif inb (↑j : Int) xs.length then bif !nmB (nmOf (xs.getD j AV.unk)) then k Ex.ret [AV.slv (Sh.agg [Sh.str, Sh.int IntKind.i64, Sh.int IntKind.i64, Sh.int IntKind.i64]) es, AV.ptr (0 : Nat) (0 : Nat), AV.slv (Sh.agg [Sh.str, Sh.int IntKind.i64, Sh.int IntKind.i64, Sh.int IntKind.i64]) xs, AV.int IntKind.i64 (↑es.length : Int), AV.int IntKind.i64 (↑j : Int)] [some (Row.box false [AV.int IntKind.i64 (10 : Int), AV.int IntKind.i64 (↑j : Int)])] else bif !inR (gOf (xs.getD j AV.unk)) (0 : Int) (1000000 : Int) then k Ex.ret [AV.slv (Sh.agg [Sh.str, Sh.int IntKind.i64, Sh.int IntKind.i64, Sh.int IntKind.i64]) es, AV.ptr (0 : Nat) (0 : Nat), AV.slv (Sh.agg [Sh.str, Sh.int IntKind.i64, Sh.int IntKind.i64, Sh.int IntKind.i64]) xs, AV.int IntKind.i64 (↑es.length : Int), AV.int IntKind.i64 (↑j : Int)] [some (Row.box false [AV.int IntKind.i64 (3 : Int), AV.int IntKind.i64 (↑j : Int)])] else bif !inR (bOf (xs.getD j AV.unk)) (0 : Int) (1000000 : Int) then k Ex.ret [AV.slv (Sh.agg [Sh.str, Sh.int IntKind.i64, Sh.int IntKind.i64, Sh.int IntKind.i64]) es, AV.ptr (0 : Nat) (0 : Nat), AV.slv (Sh.agg [Sh.str, Sh.int IntKind.i64, Sh.int IntKind.i64, Sh.int IntKind.i64]) xs, AV.int IntKind.i64 (↑es.length : Int), AV.int IntKind.i64 (↑j : Int)] [some (Row.box false [AV.int IntKind.i64 (3 : Int), AV.int IntKind.i64 (↑j : Int)])] else bif decide ((dOf (xs.getD j AV.unk)) < (-795365 : Int)) then k Ex.ret [AV.slv (Sh.agg [Sh.str, Sh.int IntKind.i64, Sh.int IntKind.i64, Sh.int IntKind.i64]) es, AV.ptr (0 : Nat) (0 : Nat), AV.slv (Sh.agg [Sh.str, Sh.int IntKind.i64, Sh.int IntKind.i64, Sh.int IntKind.i64]) xs, AV.int IntKind.i64 (↑es.length : Int), AV.int IntKind.i64 (↑j : Int)] [some (Row.box false [AV.int IntKind.i64 (3 : Int), AV.int IntKind.i64 (↑j : Int)])] else bif decide ((dOf (xs.getD j AV.unk)) > (795365 : Int)) then k Ex.ret [AV.slv (Sh.agg [Sh.str, Sh.int IntKind.i64, Sh.int IntKind.i64, Sh.int IntKind.i64]) es, AV.ptr (0 : Nat) (0 : Nat), AV.slv (Sh.agg [Sh.str, Sh.int IntKind.i64, Sh.int IntKind.i64, Sh.int IntKind.i64]) xs, AV.int IntKind.i64 (↑es.length : Int), AV.int IntKind.i64 (↑j : Int)] [some (Row.box false [AV.int IntKind.i64 (3 : Int), AV.int IntKind.i64 (↑j : Int)])] else bif decide ((↑j : Int) > (0 : Int)) then bif inb (IntKind.i64.wrap ((↑j : Int) - (1 : Int))) es.length then bif Op.bytesLess (nmOf (xs.getD j AV.unk)) (nmOf (es.getD (IntKind.i64.wrap ((↑j : Int) - (1 : Int))).toNat AV.unk)) || (nmOf (xs.getD j AV.unk)) == (nmOf (es.getD (IntKind.i64.wrap ((↑j : Int) - (1 : Int))).toNat AV.unk)) then k Ex.ret [AV.slv (Sh.agg [Sh.str, Sh.int IntKind.i64, Sh.int IntKind.i64, Sh.int IntKind.i64]) es, AV.ptr (0 : Nat) (0 : Nat), AV.slv (Sh.agg [Sh.str, Sh.int IntKind.i64, Sh.int IntKind.i64, Sh.int IntKind.i64]) xs, AV.int IntKind.i64 (↑es.length : Int), AV.int IntKind.i64 (↑j : Int)] [some (Row.box false [AV.int IntKind.i64 (19 : Int), AV.int IntKind.i64 (↑j : Int)])] else bif decide (((↑es.length : Int) - IntKind.i64.wrap ((↑j : Int) + (1 : Int))).toNat < ((↑es.length : Int) - (↑j : Int)).toNat) then bif cnt (↑es.length : Int) (IntKind.i64.wrap ((↑j : Int) + (1 : Int))) es.length && es.length.beq xs.length then bif (findN (fun i => codeN es xs i != (0 : Int)) es.length (IntKind.i64.wrap ((↑j : Int) + (1 : Int))).toNat).isSome then k Ex.ret [AV.slv (Sh.agg [Sh.str, Sh.int IntKind.i64, Sh.int IntKind.i64, Sh.int IntKind.i64]) es, AV.ptr (0 : Nat) (0 : Nat), AV.slv (Sh.agg [Sh.str, Sh.int IntKind.i64, Sh.int IntKind.i64, Sh.int IntKind.i64]) xs, AV.int IntKind.i64 (↑es.length : Int), AV.int IntKind.i64 (↑((findN (fun i => codeN es xs i != (0 : Int)) es.length (IntKind.i64.wrap ((↑j : Int) + (1 : Int))).toNat).getD (0 : Nat)) : Int)] [some (Row.box false [AV.int IntKind.i64 (codeN es xs ((findN (fun i => codeN es xs i != (0 : Int)) es.length (IntKind.i64.wrap ((↑j : Int) + (1 : Int))).toNat).getD (0 : Nat))), AV.int IntKind.i64 (↑((findN (fun i => codeN es xs i != (0 : Int)) es.length (IntKind.i64.wrap ((↑j : Int) + (1 : Int))).toNat).getD (0 : Nat)) : Int)])] else k (Ex.exit (0 : Nat)) [AV.slv (Sh.agg [Sh.str, Sh.int IntKind.i64, Sh.int IntKind.i64, Sh.int IntKind.i64]) es, AV.ptr (0 : Nat) (0 : Nat), AV.slv (Sh.agg [Sh.str, Sh.int IntKind.i64, Sh.int IntKind.i64, Sh.int IntKind.i64]) xs, AV.int IntKind.i64 (↑es.length : Int), AV.int IntKind.i64 (↑es.length : Int)] [some (Row.box false [AV.int IntKind.i64 (0 : Int), AV.int IntKind.i64 (0 : Int)])] else none else none else none else bif decide (((↑es.length : Int) - IntKind.i64.wrap ((↑j : Int) + (1 : Int))).toNat < ((↑es.length : Int) - (↑j : Int)).toNat) then bif cnt (↑es.length : Int) (IntKind.i64.wrap ((↑j : Int) + (1 : Int))) es.length && es.length.beq xs.length then bif (findN (fun i => codeN es xs i != (0 : Int)) es.length (IntKind.i64.wrap ((↑j : Int) + (1 : Int))).toNat).isSome then k Ex.ret [AV.slv (Sh.agg [Sh.str, Sh.int IntKind.i64, Sh.int IntKind.i64, Sh.int IntKind.i64]) es, AV.ptr (0 : Nat) (0 : Nat), AV.slv (Sh.agg [Sh.str, Sh.int IntKind.i64, Sh.int IntKind.i64, Sh.int IntKind.i64]) xs, AV.int IntKind.i64 (↑es.length : Int), AV.int IntKind.i64 (↑((findN (fun i => codeN es xs i != (0 : Int)) es.length (IntKind.i64.wrap ((↑j : Int) + (1 : Int))).toNat).getD (0 : Nat)) : Int)] [some (Row.box false [AV.int IntKind.i64 (codeN es xs ((findN (fun i => codeN es xs i != (0 : Int)) es.length (IntKind.i64.wrap ((↑j : Int) + (1 : Int))).toNat).getD (0 : Nat))), AV.int IntKind.i64 (↑((findN (fun i => codeN es xs i != (0 : Int)) es.length (IntKind.i64.wrap ((↑j : Int) + (1 : Int))).toNat).getD (0 : Nat)) : Int)])] else k (Ex.exit (0 : Nat)) [AV.slv (Sh.agg [Sh.str, Sh.int IntKind.i64, Sh.int IntKind.i64, Sh.int IntKind.i64]) es, AV.ptr (0 : Nat) (0 : Nat), AV.slv (Sh.agg [Sh.str, Sh.int IntKind.i64, Sh.int IntKind.i64, Sh.int IntKind.i64]) xs, AV.int IntKind.i64 (↑es.length : Int), AV.int IntKind.i64 (↑es.length : Int)] [some (Row.box false [AV.int IntKind.i64 (0 : Int), AV.int IntKind.i64 (0 : Int)])] else none else none else none else k (Ex.exit (0 : Nat)) [AV.slv (Sh.agg [Sh.str, Sh.int IntKind.i64, Sh.int IntKind.i64, Sh.int IntKind.i64]) es, AV.ptr (0 : Nat) (0 : Nat), AV.slv (Sh.agg [Sh.str, Sh.int IntKind.i64, Sh.int IntKind.i64, Sh.int IntKind.i64]) xs, AV.int IntKind.i64 (↑es.length : Int), AV.int IntKind.i64 (↑j : Int)] [some (Row.box false [AV.int IntKind.i64 (0 : Int), AV.int IntKind.i64 (0 : Int)])]) (by kernel_rfl) ?_
    rw [← hk]
    by_cases hlt : j < es.length
    · obtain ⟨e1, e2, e3, e4, e5⟩ := cnt_facts hlt hs
      rw [sT_step _ _ _ _ _ hlt]
      have e6 : inb (j : Int) xs.length = true := hp' ▸ e2
      have e7 : codeN es xs j = codeB (!nmB (nmOf (xs.getD j .unk))) (!inR (gOf (xs.getD j .unk)) 0 1000000) (!inR (bOf (xs.getD j .unk)) 0 1000000) (decide (dOf (xs.getD j .unk) < -795365) || decide (dOf (xs.getD j .unk) > 795365)) (ordN es (xs.getD j .unk) j) := by
        rw [← inR_not]; rfl
      rcases Nat.eq_zero_or_pos j with h0 | h0
      · have e8 : ordN es (xs.getD j .unk) j = false := by subst h0; rfl
        have e9 : decide ((j : Int) > 0) = false := decide_eq_false (by omega)
        simp only [e1, e2, e3, e4, e5, e6, e7, e8, e9, hp, cond_true, cond_false, Int.toNat_natCast, Bool.and_self]
        generalize (!nmB (nmOf (xs.getD j .unk))) = a1
        generalize (!inR (gOf (xs.getD j .unk)) 0 1000000) = a2
        generalize (!inR (bOf (xs.getD j .unk)) 0 1000000) = a3
        generalize decide (dOf (xs.getD j .unk) < -795365) = a4
        generalize decide (dOf (xs.getD j .unk) > 795365) = a5
        cases a1 <;> cases a2 <;> cases a3 <;> cases a4 <;> cases a5 <;> rfl
      · have e8 : ordN es (xs.getD j .unk) j = (Op.bytesLess (nmOf (xs.getD j .unk)) (nmOf (es.getD (j - 1) .unk)) || nmOf (xs.getD j .unk) == nmOf (es.getD (j - 1) .unk)) := by
          unfold ordN; rw [decide_eq_true (by omega)]; rfl
        have e9 : decide ((j : Int) > 0) = true := decide_eq_true (by omega)
        have e10 : IntKind.i64.wrap ((j : Int) - 1) = ((j - 1 : Nat) : Int) := by rw [wrap_small _ (by omega) (by omega)]; omega
        have e11 : inb ((j - 1 : Nat) : Int) es.length = true := inb_true (by omega) (by omega)
        rw [show es.getD (IntKind.i64.wrap ((j : Int) - 1)).toNat .unk = es.getD (j - 1) .unk from by rw [e10, Int.toNat_natCast]]
        simp only [e1, e2, e3, e4, e5, e6, e7, e8, e9, e10, e11, hp, cond_true, cond_false, Int.toNat_natCast, Bool.and_self]
        generalize (!nmB (nmOf (xs.getD j .unk))) = a1
        generalize (!inR (gOf (xs.getD j .unk)) 0 1000000) = a2
        generalize (!inR (bOf (xs.getD j .unk)) 0 1000000) = a3
        generalize decide (dOf (xs.getD j .unk) < -795365) = a4
        generalize decide (dOf (xs.getD j .unk) > 795365) = a5
        generalize (Op.bytesLess (nmOf (xs.getD j .unk)) (nmOf (es.getD (j - 1) .unk)) || nmOf (xs.getD j .unk) == nmOf (es.getD (j - 1) .unk)) = a6
        cases a1 <;> cases a2 <;> cases a3 <;> cases a4 <;> cases a5 <;> cases a6 <;> rfl
    · obtain rfl : j = es.length := by omega
      rw [decide_eq_false (by omega), sT_end]
      rfl
  · cases h
def fault (x : Int × Int) : AV := .agg [.int .i64 x.1, .int .i64 x.2]
def badS (es : List AV) : Option Nat := findN (fun i => codeN es es i != 0) es.length 0
def sendF (es : List AV) : Int × Int := bif decide ((es.length : Int) > 300) then (2, -1) else bif (badS es).isSome then (codeN es es ((badS es).getD 0), (((badS es).getD 0 : Nat) : Int)) else (0, 0)
def F9 : List AV → Tr AV
  | [.slv (.agg [.str, .int .i64, .int .i64, .int .i64]) es] => .gd (small es.length) (.leaf (fault (sendF es)))
  | _ => .no
theorem sendF_br {α : Type} (es : List AV) (k : AV → α) : (bif decide ((es.length : Int) > 300) then k (.agg [.int .i64 2, .int .i64 (-1)]) else bif (badS es).isSome then k (.agg [.int .i64 (codeN es es ((badS es).getD 0)), .int .i64 (((badS es).getD 0 : Nat) : Int)]) else k (.agg [.int .i64 0, .int .i64 0])) = k (fault (sendF es)) := by
  unfold sendF
  generalize decide ((es.length : Int) > 300) = a
  cases a <;> cases (badS es) <;> rfl
theorem ok9 : SumOK Try.prog 9 (ofT F9) ∧ SNat (ofT F9) := by
  refine fn1 (K := [(4, l9)]) (b := b9) (l := l9) g1 Try.func9 (by kernel_rfl) (by kernel_rfl) loop9 fun ρ avs k r h => ?_
  unfold F9 at h
  split at h
  · rename_i es
    obtain ⟨hc, hk⟩ := gd_some h
    refine Eq.trans (b := bif decide ((↑es.length : Int) > (300 : Int)) then k (AV.agg [AV.int IntKind.i64 (2 : Int), AV.int IntKind.i64 (-1 : Int)]) else bif cnt (↑es.length : Int) (0 : Int) es.length && es.length.beq es.length then bif (findN (fun i => codeN es es i != (0 : Int)) es.length (Int.toNat (0 : Int))).isSome then k (AV.agg [AV.int IntKind.i64 (codeN es es ((findN (fun i => codeN es es i != (0 : Int)) es.length (Int.toNat (0 : Int))).getD (0 : Nat))), AV.int IntKind.i64 (↑((findN (fun i => codeN es es i != (0 : Int)) es.length (Int.toNat (0 : Int))).getD (0 : Nat)) : Int)]) else k (AV.agg [AV.int IntKind.i64 (0 : Int), AV.int IntKind.i64 (0 : Int)]) else none) (by kernel_rfl) ?_
    rw [← hk, cnt_zero hc, Nat.beq_refl]
    exact sendF_br es k
  · cases h
noncomputable def b10 : Code := ((Try.f10.body.map loopsOf).getD []).headD .skip
def L10 : List AV → List (Option Row) → Tr LOut
  | [.slv (.agg [.str, .int .i64, .int .i64, .int .i64]) es, .ptr 0 0, .int .i64 i], [some (.box false [.int .i64 0, .int .i64 0])] =>
    .gd (cnt es.length i es.length) (sT (fun i => codeN es es i != 0) es.length (fun q => .leaf (.ret, [.slv sS es, .ptr 0 0, .int .i64 (q : Nat)], [some (.box false [.int .i64 (codeN es es q), .int .i64 q])]))
     (.leaf (.exit 0, [.slv sS es, .ptr 0 0, .int .i64 es.length], [some (.box false [.int .i64 0, .int .i64 0])])) i.toNat)
  | _, _ => .no
def l10 : Ev.Loop := ⟨{ len := 64, slots := [0, 2, 3], rows := [0] }, ofL L10⟩
def μ10 (vs : List AV) (_ : List (Option Row)) : Nat := match vs with
  | [.slv _ es, _, .int _ i] => ((es.length : Int) - i).toNat
  | _ => 0
theorem loop10 : LoopOK Try.prog G1 [(4, l10)] b10 l10 := by
  refine loopT g1.natOK rfl (KOK.nil (by kernel_rfl)) μ10 (fun ρ vs rs k r h => ?_)
  unfold L10 at h
  split at h
  · rename_i es i
    obtain ⟨hc, hk⟩ := gd_some h
    obtain ⟨_, hs, j, rfl, hj⟩ := cnt_spec hc
    rw [Int.toNat_natCast] at hk
    refine Eq.trans (b := bif decide ((↑j : Int) < (↑es.length : Int)) then bif inb (↑j : Int) es.length then bif !inR (↑(nmOf (es.getD j AV.unk)).length : Int) (1 : Int) (4000 : Int) then k Ex.ret [AV.slv (Sh.agg [Sh.str, Sh.int IntKind.i64, Sh.int IntKind.i64, Sh.int IntKind.i64]) es, AV.ptr (0 : Nat) (0 : Nat), AV.int IntKind.i64 (↑j : Int)] [some (Row.box false [AV.int IntKind.i64 (10 : Int), AV.int IntKind.i64 (↑j : Int)])] else bif !inR (gOf (es.getD j AV.unk)) (0 : Int) (1000000 : Int) then k Ex.ret [AV.slv (Sh.agg [Sh.str, Sh.int IntKind.i64, Sh.int IntKind.i64, Sh.int IntKind.i64]) es, AV.ptr (0 : Nat) (0 : Nat), AV.int IntKind.i64 (↑j : Int)] [some (Row.box false [AV.int IntKind.i64 (3 : Int), AV.int IntKind.i64 (↑j : Int)])] else bif !inR (bOf (es.getD j AV.unk)) (0 : Int) (1000000 : Int) then k Ex.ret [AV.slv (Sh.agg [Sh.str, Sh.int IntKind.i64, Sh.int IntKind.i64, Sh.int IntKind.i64]) es, AV.ptr (0 : Nat) (0 : Nat), AV.int IntKind.i64 (↑j : Int)] [some (Row.box false [AV.int IntKind.i64 (3 : Int), AV.int IntKind.i64 (↑j : Int)])] else bif !inR (dOf (es.getD j AV.unk)) (IntKind.i64.wrap ((0 : Int) - (795365 : Int))) (795365 : Int) then k Ex.ret [AV.slv (Sh.agg [Sh.str, Sh.int IntKind.i64, Sh.int IntKind.i64, Sh.int IntKind.i64]) es, AV.ptr (0 : Nat) (0 : Nat), AV.int IntKind.i64 (↑j : Int)] [some (Row.box false [AV.int IntKind.i64 (3 : Int), AV.int IntKind.i64 (↑j : Int)])] else bif decide ((↑j : Int) > (0 : Int)) then bif inb (IntKind.i64.wrap ((↑j : Int) - (1 : Int))) es.length then bif Op.bytesLess (nmOf (es.getD j AV.unk)) (nmOf (es.getD (IntKind.i64.wrap ((↑j : Int) - (1 : Int))).toNat AV.unk)) || (nmOf (es.getD j AV.unk)) == (nmOf (es.getD (IntKind.i64.wrap ((↑j : Int) - (1 : Int))).toNat AV.unk)) then k Ex.ret [AV.slv (Sh.agg [Sh.str, Sh.int IntKind.i64, Sh.int IntKind.i64, Sh.int IntKind.i64]) es, AV.ptr (0 : Nat) (0 : Nat), AV.int IntKind.i64 (↑j : Int)] [some (Row.box false [AV.int IntKind.i64 (19 : Int), AV.int IntKind.i64 (↑j : Int)])] else bif decide (((↑es.length : Int) - IntKind.i64.wrap ((↑j : Int) + (1 : Int))).toNat < ((↑es.length : Int) - (↑j : Int)).toNat) then bif cnt (↑es.length : Int) (IntKind.i64.wrap ((↑j : Int) + (1 : Int))) es.length then bif (findN (fun i => codeN es es i != (0 : Int)) es.length (IntKind.i64.wrap ((↑j : Int) + (1 : Int))).toNat).isSome then k Ex.ret [AV.slv (Sh.agg [Sh.str, Sh.int IntKind.i64, Sh.int IntKind.i64, Sh.int IntKind.i64]) es, AV.ptr (0 : Nat) (0 : Nat), AV.int IntKind.i64 (↑((findN (fun i => codeN es es i != (0 : Int)) es.length (IntKind.i64.wrap ((↑j : Int) + (1 : Int))).toNat).getD (0 : Nat)) : Int)] [some (Row.box false [AV.int IntKind.i64 (codeN es es ((findN (fun i => codeN es es i != (0 : Int)) es.length (IntKind.i64.wrap ((↑j : Int) + (1 : Int))).toNat).getD (0 : Nat))), AV.int IntKind.i64 (↑((findN (fun i => codeN es es i != (0 : Int)) es.length (IntKind.i64.wrap ((↑j : Int) + (1 : Int))).toNat).getD (0 : Nat)) : Int)])] else k (Ex.exit (0 : Nat)) [AV.slv (Sh.agg [Sh.str, Sh.int IntKind.i64, Sh.int IntKind.i64, Sh.int IntKind.i64]) es, AV.ptr (0 : Nat) (0 : Nat), AV.int IntKind.i64 (↑es.length : Int)] [some (Row.box false [AV.int IntKind.i64 (0 : Int), AV.int IntKind.i64 (0 : Int)])] else none else none else none else bif decide (((↑es.length : Int) - IntKind.i64.wrap ((↑j : Int) + (1 : Int))).toNat < ((↑es.length : Int) - (↑j : Int)).toNat) then bif cnt (↑es.length : Int) (IntKind.i64.wrap ((↑j : Int) + (1 : Int))) es.length then bif (findN (fun i => codeN es es i != (0 : Int)) es.length (IntKind.i64.wrap ((↑j : Int) + (1 : Int))).toNat).isSome then k Ex.ret [AV.slv (Sh.agg [Sh.str, Sh.int IntKind.i64, Sh.int IntKind.i64, Sh.int IntKind.i64]) es, AV.ptr (0 : Nat) (0 : Nat), AV.int IntKind.i64 (↑((findN (fun i => codeN es es i != (0 : Int)) es.length (IntKind.i64.wrap ((↑j : Int) + (1 : Int))).toNat).getD (0 : Nat)) : Int)] [some (Row.box false [AV.int IntKind.i64 (codeN es es ((findN (fun i => codeN es es i != (0 : Int)) es.length (IntKind.i64.wrap ((↑j : Int) + (1 : Int))).toNat).getD (0 : Nat))), AV.int IntKind.i64 (↑((findN (fun i => codeN es es i != (0 : Int)) es.length (IntKind.i64.wrap ((↑j : Int) + (1 : Int))).toNat).getD (0 : Nat)) : Int)])] else k (Ex.exit (0 : Nat)) [AV.slv (Sh.agg [Sh.str, Sh.int IntKind.i64, Sh.int IntKind.i64, Sh.int IntKind.i64]) es, AV.ptr (0 : Nat) (0 : Nat), AV.int IntKind.i64 (↑es.length : Int)] [some (Row.box false [AV.int IntKind.i64 (0 : Int), AV.int IntKind.i64 (0 : Int)])] else none else none else none else k (Ex.exit (0 : Nat)) [AV.slv (Sh.agg [Sh.str, Sh.int IntKind.i64, Sh.int IntKind.i64, Sh.int IntKind.i64]) es, AV.ptr (0 : Nat) (0 : Nat), AV.int IntKind.i64 (↑j : Int)] [some (Row.box false [AV.int IntKind.i64 (0 : Int), AV.int IntKind.i64 (0 : Int)])]) (by kernel_rfl) ?_
    rw [← hk]
    by_cases hlt : j < es.length
    · obtain ⟨e1, e2, e3, e4, e5⟩ := cnt_facts hlt hs
      rw [sT_step _ _ _ _ _ hlt]
      have e7 : codeN es es j = codeB (!inR (((nmOf (es.getD j .unk)).length : Nat) : Int) 1 4000) (!inR (gOf (es.getD j .unk)) 0 1000000) (!inR (bOf (es.getD j .unk)) 0 1000000) (!inR (dOf (es.getD j .unk)) (IntKind.i64.wrap (0 - 795365)) 795365) (ordN es (es.getD j .unk) j) := by
        rw [wrap_mid (0 - 795365) (by decide) (by decide)]; rfl
      rcases Nat.eq_zero_or_pos j with h0 | h0
      · have e8 : ordN es (es.getD j .unk) j = false := by subst h0; rfl
        have e9 : decide ((j : Int) > 0) = false := decide_eq_false (by omega)
        simp only [e1, e2, e3, e4, e5, e7, e8, e9, cond_true, cond_false, Int.toNat_natCast]
        generalize (!inR (((nmOf (es.getD j .unk)).length : Nat) : Int) 1 4000) = a1
        generalize (!inR (gOf (es.getD j .unk)) 0 1000000) = a2
        generalize (!inR (bOf (es.getD j .unk)) 0 1000000) = a3
        generalize (!inR (dOf (es.getD j .unk)) (IntKind.i64.wrap (0 - 795365)) 795365) = a4
        cases a1 <;> cases a2 <;> cases a3 <;> cases a4 <;> rfl
      · have e8 : ordN es (es.getD j .unk) j = (Op.bytesLess (nmOf (es.getD j .unk)) (nmOf (es.getD (j - 1) .unk)) || nmOf (es.getD j .unk) == nmOf (es.getD (j - 1) .unk)) := by
          unfold ordN; rw [decide_eq_true (by omega)]; rfl
        have e9 : decide ((j : Int) > 0) = true := decide_eq_true (by omega)
        have e10 : IntKind.i64.wrap ((j : Int) - 1) = ((j - 1 : Nat) : Int) := by rw [wrap_small _ (by omega) (by omega)]; omega
        have e11 : inb ((j - 1 : Nat) : Int) es.length = true := inb_true (by omega) (by omega)
        rw [show es.getD (IntKind.i64.wrap ((j : Int) - 1)).toNat .unk = es.getD (j - 1) .unk from by rw [e10, Int.toNat_natCast]]
        simp only [e1, e2, e3, e4, e5, e7, e8, e9, e10, e11, cond_true, Int.toNat_natCast]
        generalize (!inR (((nmOf (es.getD j .unk)).length : Nat) : Int) 1 4000) = a1
        generalize (!inR (gOf (es.getD j .unk)) 0 1000000) = a2
        generalize (!inR (bOf (es.getD j .unk)) 0 1000000) = a3
        generalize (!inR (dOf (es.getD j .unk)) (IntKind.i64.wrap (0 - 795365)) 795365) = a4
        generalize (Op.bytesLess (nmOf (es.getD j .unk)) (nmOf (es.getD (j - 1) .unk)) || nmOf (es.getD j .unk) == nmOf (es.getD (j - 1) .unk)) = a6
        cases a1 <;> cases a2 <;> cases a3 <;> cases a4 <;> cases a6 <;> rfl
    · obtain rfl : j = es.length := by omega
      rw [decide_eq_false (by omega), sT_end]
      rfl
  · cases h
theorem ok10 : SumOK Try.prog 10 (ofT F9) ∧ SNat (ofT F9) := by
  refine fn1 (K := [(4, l10)]) (b := b10) (l := l10) g1 Try.func10 (by kernel_rfl) (by kernel_rfl) loop10 fun ρ avs k r h => ?_
  unfold F9 at h
  split at h
  · rename_i es
    obtain ⟨hc, hk⟩ := gd_some h
    refine Eq.trans (b := bif decide ((↑es.length : Int) > (300 : Int)) then k (AV.agg [AV.int IntKind.i64 (2 : Int), AV.int IntKind.i64 (-1 : Int)]) else bif cnt (↑es.length : Int) (0 : Int) es.length then bif (findN (fun i => codeN es es i != (0 : Int)) es.length (Int.toNat (0 : Int))).isSome then k (AV.agg [AV.int IntKind.i64 (codeN es es ((findN (fun i => codeN es es i != (0 : Int)) es.length (Int.toNat (0 : Int))).getD (0 : Nat))), AV.int IntKind.i64 (↑((findN (fun i => codeN es es i != (0 : Int)) es.length (Int.toNat (0 : Int))).getD (0 : Nat)) : Int)]) else k (AV.agg [AV.int IntKind.i64 (0 : Int), AV.int IntKind.i64 (0 : Int)]) else none) (by kernel_rfl) ?_
    rw [← hk, cnt_zero hc]
    exact sendF_br es k
  · cases h

/-! DayOf -/
def F31 : List AV → Tr AV
  | [.int .i64 t] => .gd (tmB t) (.leaf (.int .i64 (t / 86400)))
  | _ => .no
theorem ok31 : SumOK Try.prog 31 (ofT F31) ∧ SNat (ofT F31) := by
  refine fn0 g1 Try.func31 (by kernel_rfl) fun ρ avs k r h => ?_
  unfold F31 at h
  split at h
  · rename_i t
    obtain ⟨hc, hk⟩ := gd_some h
    obtain ⟨h1, h2⟩ := inR_spec hc
    refine Eq.trans (b := bif decide (t < (0 : Int)) then bif IntKind.i64.wrap (IntKind.i64.wrap (IntKind.i64.wrap (IntKind.i64.wrap ((0 : Int) - IntKind.i64.wrap ((IntKind.i64.wrap ((0 : Int) - t)).tdiv (86400 : Int))) - (1 : Int)) + (1 : Int)) * (86400 : Int)) == t then k (AV.int IntKind.i64 (IntKind.i64.wrap (IntKind.i64.wrap (IntKind.i64.wrap ((0 : Int) - IntKind.i64.wrap ((IntKind.i64.wrap ((0 : Int) - t)).tdiv (86400 : Int))) - (1 : Int)) + (1 : Int)))) else k (AV.int IntKind.i64 (IntKind.i64.wrap (IntKind.i64.wrap ((0 : Int) - IntKind.i64.wrap ((IntKind.i64.wrap ((0 : Int) - t)).tdiv (86400 : Int))) - (1 : Int)))) else bif IntKind.i64.wrap (IntKind.i64.wrap (IntKind.i64.wrap (t.tdiv (86400 : Int)) + (1 : Int)) * (86400 : Int)) == t then k (AV.int IntKind.i64 (IntKind.i64.wrap (IntKind.i64.wrap (t.tdiv (86400 : Int)) + (1 : Int)))) else k (AV.int IntKind.i64 (IntKind.i64.wrap (t.tdiv (86400 : Int))))) (by kernel_rfl) ?_
    rw [← hk]
    by_cases h0 : t < 0
    · have e1 : IntKind.i64.wrap (0 - t) = -t := by rw [wrap_mid _ (by omega) (by omega)]; omega
      have e2 : (-t).tdiv 86400 = (-t) / 86400 := Int.tdiv_eq_ediv_of_nonneg (by omega)
      have e3 : IntKind.i64.wrap ((-t) / 86400) = (-t) / 86400 := wrap_mid _ (by omega) (by omega)
      have e4 : IntKind.i64.wrap (0 - (-t) / 86400) = 0 - (-t) / 86400 := wrap_mid _ (by omega) (by omega)
      have e5 : IntKind.i64.wrap (0 - (-t) / 86400 - 1) = 0 - (-t) / 86400 - 1 := wrap_mid _ (by omega) (by omega)
      have e6 : IntKind.i64.wrap (0 - (-t) / 86400 - 1 + 1) = 0 - (-t) / 86400 := by rw [wrap_mid _ (by omega) (by omega)]; omega
      have e7 : IntKind.i64.wrap ((0 - (-t) / 86400) * 86400) = (0 - (-t) / 86400) * 86400 := wrap_mid _ (by omega) (by omega)
      rw [decide_eq_true h0]
      simp only [e1, e2, e3, e4, e5, e6, e7, cond_true]
      by_cases h3 : (0 - (-t) / 86400) * 86400 = t
      · rw [show ((0 - (-t) / 86400) * 86400 == t) = true from by simpa using h3, show 0 - (-t) / 86400 = t / 86400 from by omega]
        rfl
      · rw [show ((0 - (-t) / 86400) * 86400 == t) = false from by simpa using h3, show 0 - (-t) / 86400 - 1 = t / 86400 from by omega]
        rfl
    · have e2 : t.tdiv 86400 = t / 86400 := Int.tdiv_eq_ediv_of_nonneg (by omega)
      have e3 : IntKind.i64.wrap (t / 86400) = t / 86400 := wrap_mid _ (by omega) (by omega)
      have e4 : IntKind.i64.wrap (t / 86400 + 1) = t / 86400 + 1 := wrap_mid _ (by omega) (by omega)
      have e5 : IntKind.i64.wrap ((t / 86400 + 1) * 86400) = (t / 86400 + 1) * 86400 := wrap_mid _ (by omega) (by omega)
      rw [decide_eq_false h0]
      simp only [e2, e3, e4, e5, cond_false]
      rw [show ((t / 86400 + 1) * 86400 == t) = false from by simp; omega]
      rfl
  · cases h
end Go.Proofs.Ytbbmjifioimlmaa
