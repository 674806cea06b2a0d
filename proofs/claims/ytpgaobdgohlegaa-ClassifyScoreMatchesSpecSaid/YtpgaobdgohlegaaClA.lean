/-
  Small functions of the classifier; what is wrong with words and tokens.
-/
import Derived.Test.YtpgaobdgohlegaaDel
import Derived.Test.YtpgaobdgohlegaaOrd
import Derived.Test.YtpgaobdgohlegaaSrt
import Derived.Test.YtpgaobdgohlegaaGiven
namespace Go.Proofs.Ytpgaobdgohlegaa
open Go.Ev

abbrev sK : Sh := .agg [.str, .int .i64, .int .i64]
def xOf (e : AV) : List UInt8 := (e.cells.headD .unk).toStr
def gOf (e : AV) : Int := (e.cells.tail.headD .unk).toInt
def jOf (e : AV) : Int := (e.cells.tail.tail.headD .unk).toInt
noncomputable def G0 : Env := { pure := [] }
theorem g0 : GOK Try.prog G0 := GOK.empty
def inR (n a b : Int) : Bool := decide (a ≤ n) && decide (n ≤ b)
theorem inR_spec {n a b : Int} (h : inR n a b = true) : a ≤ n ∧ n ≤ b := by simpa [inR] using h
theorem inR_of {n a b : Int} (h : a ≤ n) (h' : n ≤ b) : inR n a b = true := by simp [inR, h, h']
theorem inR_br {α : Type} (n a b : Int) (k : AV → α) : (bif decide (n ≥ a) then k (.bool (decide (n ≤ b))) else k (.bool false)) = k (.bool (inR n a b)) := by
  unfold inR
  rw [show decide (n ≥ a) = decide (a ≤ n) from rfl]
  cases decide (a ≤ n) <;> rfl
def F14 : List AV → Tr AV
  | [.int .i64 n, .int .i64 a, .int .i64 b] => .leaf (.bool (inR n a b))
  | _ => .no
theorem ok14 : SumOK Try.prog 14 (ofT F14) ∧ SNat (ofT F14) := by
  refine fn0 g0 Try.func14 (by kernel_rfl) fun ρ avs k r h => ?_
  unfold F14 at h
  split at h
  · rename_i n a b
    have hk := h
    refine Eq.trans (b := bif decide (a ≤ n) then k (AV.bool (decide (n ≤ b))) else k (AV.bool false)) (by kernel_rfl) ?_
    rw [← hk]
    exact inR_br n a b k
  · cases h
def F35 : List AV → Tr AV
  | [.int .i64 n, .int .i64 b] => .leaf (.bool (inR n 0 b))
  | _ => .no
theorem ok35 : SumOK Try.prog 35 (ofT F35) ∧ SNat (ofT F35) := by
  refine fn0 g0 Try.func35 (by kernel_rfl) fun ρ avs k r h => ?_
  unfold F35 at h
  split at h
  · rename_i n b
    have hk := h
    refine Eq.trans (b := bif decide (n ≥ (0 : Int)) then k (AV.bool (decide (n ≤ b))) else k (AV.bool false)) (by kernel_rfl) ?_
    rw [← hk]
    exact inR_br n 0 b k
  · cases h
def nmB (s : List UInt8) : Bool := inR s.length 1 200
def F36 : List AV → Tr AV
  | [.str s] => .leaf (.bool (nmB s))
  | _ => .no
theorem ok36 : SumOK Try.prog 36 (ofT F36) ∧ SNat (ofT F36) := by
  refine fn0 g0 Try.func36 (by kernel_rfl) fun ρ avs k r h => ?_
  unfold F36 at h
  split at h
  · rename_i s
    have hk := h
    refine Eq.trans (b := bif decide ((↑s.length : Int) ≥ (1 : Int)) then k (AV.bool (decide ((↑s.length : Int) ≤ (200 : Int)))) else k (AV.bool false)) (by kernel_rfl) ?_
    rw [← hk]
    exact inR_br _ _ _ k
  · cases h
noncomputable def G1 : Env := { pure := [(36, ofT F36), (35, ofT F35), (29, evF Try.prog G0 [] Try.f29), (23, evF Try.prog G0 [] Try.f23), (21, evF Try.prog G0 [] Try.f21), (27, evF Try.prog G0 [] Try.f27), (14, ofT F14)] }
theorem g1 : GOK Try.prog G1 := GOK.also (GOK.also (GOK.also (GOK.also (GOK.also (GOK.also (GOK.also g0 ok14) (inl g0 Try.func27 (by kernel_rfl))) (inl g0 Try.func21 (by kernel_rfl))) (inl g0 Try.func23 (by kernel_rfl))) (inl g0 Try.func29 (by kernel_rfl))) ok35) ok36

/-! Validate, WordsFault -/
def codeB (a b c d e : Bool) : Int := bif a then 10 else bif b then 3 else bif c then 3 else bif d then 3 else bif e then 19 else 0
def ordN (es : List AV) (x : AV) (i : Nat) : Bool := decide ((i : Int) > 0) && (Op.bytesLess (xOf x) (xOf (es.getD (i - 1) .unk)) || xOf x == xOf (es.getD (i - 1) .unk))
def codeX (G J : Int) (es : List AV) (x : AV) (i : Nat) : Int := codeB (!nmB (xOf x)) (!inR (gOf x) 0 G) (!inR (jOf x) 0 J) (gOf x == 0 && jOf x == 0) (ordN es x i)
def codeN (G J : Int) (es xs : List AV) (i : Nat) : Int := codeX G J es (xs.getD i .unk) i
noncomputable def b18 : Code := ((Try.f18.body.map loopsOf).getD []).headD .skip
def L18 : List AV → List (Option Row) → Tr LOut
  | [.ptr 0 0, .ptr 1 0, .slv (.agg [.str, .int .i64, .int .i64]) xs, .int .i64 n, .int .i64 i], [some (.box false [.int .i64 G, .int .i64 J, .slv (.agg [.str, .int .i64, .int .i64]) es]), some (.box false [.int .i64 0, .int .i64 0])] =>
    .gd (cnt n i es.length && (Nat.beq es.length xs.length && (decide (G ≤ 1000000) && decide (J ≤ 1000000)))) (sT (fun i => codeN G J es xs i != 0) es.length (fun q => .leaf (.ret, [.ptr 0 0, .ptr 1 0, .slv sK xs, .int .i64 n, .int .i64 (q : Nat)], [some (.box false [.int .i64 G, .int .i64 J, .slv sK es]), some (.box false [.int .i64 (codeN G J es xs q), .int .i64 q])]))
     (.leaf (.exit 0, [.ptr 0 0, .ptr 1 0, .slv sK xs, .int .i64 n, .int .i64 es.length], [some (.box false [.int .i64 G, .int .i64 J, .slv sK es]), some (.box false [.int .i64 0, .int .i64 0])])) i.toNat)
  | _, _ => .no
def l18 : Ev.Loop := ⟨{ len := 80, slots := [1, 2, 22, 23, 24], rows := [0, 1] }, ofL L18⟩
def μ18 (vs : List AV) (_ : List (Option Row)) : Nat := match vs with
  | [_, _, _, .int _ d, .int _ i] => (d - i).toNat
  | _ => 0
theorem gj_zero {g j G J : Int} (hg : inR g 0 G = true) (hj : inR j 0 J = true) (hG : G ≤ 1000000) (hJ : J ≤ 1000000) : (IntKind.i64.wrap (g + j) == 0) = (g == 0 && j == 0) := by
  obtain ⟨g0, g1⟩ := inR_spec hg
  obtain ⟨j0, j1⟩ := inR_spec hj
  rw [wrap_mid _ (by omega) (by omega)]
  rw [show (g + j == 0) = decide (g + j = 0) from rfl, show (g == 0) = decide (g = 0) from rfl, show (j == 0) = decide (j = 0) from rfl, ← Bool.decide_and]
  exact decide_eq_decide.2 (by omega)
theorem loop18 : LoopOK Try.prog G1 [(6, l18)] b18 l18 := by
  refine loopT g1.natOK rfl (KOK.nil (by kernel_rfl)) μ18 (fun ρ vs rs k r h => ?_)
  unfold L18 at h
  split at h
  · rename_i xs n i G J es
    obtain ⟨hc, hk⟩ := gd_some h
    simp only [Bool.and_eq_true] at hc
    obtain ⟨hc, hp, hG, hJ⟩ := hc
    have hG' := of_decide_eq_true hG
    have hJ' := of_decide_eq_true hJ
    have hp' : es.length = xs.length := Nat.eq_of_beq_eq_true hp
    obtain ⟨rfl, hs, j, rfl, hj⟩ := cnt_spec hc
    rw [Int.toNat_natCast] at hk
    refine Eq.trans (b := bif decide ((↑j : Int) < (↑es.length : Int)) then bif inb (↑j : Int) xs.length then bif !nmB (xOf (xs.getD j AV.unk)) then k Ex.ret [AV.ptr (0 : Nat) (0 : Nat), AV.ptr (1 : Nat) (0 : Nat), AV.slv (Sh.agg [Sh.str, Sh.int IntKind.i64, Sh.int IntKind.i64]) xs, AV.int IntKind.i64 (↑es.length : Int), AV.int IntKind.i64 (↑j : Int)] [some (Row.box false [AV.int IntKind.i64 G, AV.int IntKind.i64 J, AV.slv (Sh.agg [Sh.str, Sh.int IntKind.i64, Sh.int IntKind.i64]) es]), some (Row.box false [AV.int IntKind.i64 (10 : Int), AV.int IntKind.i64 (↑j : Int)])] else bif !inR (gOf (xs.getD j AV.unk)) (0 : Int) G then k Ex.ret [AV.ptr (0 : Nat) (0 : Nat), AV.ptr (1 : Nat) (0 : Nat), AV.slv (Sh.agg [Sh.str, Sh.int IntKind.i64, Sh.int IntKind.i64]) xs, AV.int IntKind.i64 (↑es.length : Int), AV.int IntKind.i64 (↑j : Int)] [some (Row.box false [AV.int IntKind.i64 G, AV.int IntKind.i64 J, AV.slv (Sh.agg [Sh.str, Sh.int IntKind.i64, Sh.int IntKind.i64]) es]), some (Row.box false [AV.int IntKind.i64 (3 : Int), AV.int IntKind.i64 (↑j : Int)])] else bif !inR (jOf (xs.getD j AV.unk)) (0 : Int) J then k Ex.ret [AV.ptr (0 : Nat) (0 : Nat), AV.ptr (1 : Nat) (0 : Nat), AV.slv (Sh.agg [Sh.str, Sh.int IntKind.i64, Sh.int IntKind.i64]) xs, AV.int IntKind.i64 (↑es.length : Int), AV.int IntKind.i64 (↑j : Int)] [some (Row.box false [AV.int IntKind.i64 G, AV.int IntKind.i64 J, AV.slv (Sh.agg [Sh.str, Sh.int IntKind.i64, Sh.int IntKind.i64]) es]), some (Row.box false [AV.int IntKind.i64 (3 : Int), AV.int IntKind.i64 (↑j : Int)])] else bif IntKind.i64.wrap ((gOf (xs.getD j AV.unk)) + (jOf (xs.getD j AV.unk))) == (0 : Int) then k Ex.ret [AV.ptr (0 : Nat) (0 : Nat), AV.ptr (1 : Nat) (0 : Nat), AV.slv (Sh.agg [Sh.str, Sh.int IntKind.i64, Sh.int IntKind.i64]) xs, AV.int IntKind.i64 (↑es.length : Int), AV.int IntKind.i64 (↑j : Int)] [some (Row.box false [AV.int IntKind.i64 G, AV.int IntKind.i64 J, AV.slv (Sh.agg [Sh.str, Sh.int IntKind.i64, Sh.int IntKind.i64]) es]), some (Row.box false [AV.int IntKind.i64 (3 : Int), AV.int IntKind.i64 (↑j : Int)])] else bif decide ((↑j : Int) > (0 : Int)) then bif inb (IntKind.i64.wrap ((↑j : Int) - (1 : Int))) es.length then bif Op.bytesLess (xOf (xs.getD j AV.unk)) (xOf (es.getD (IntKind.i64.wrap ((↑j : Int) - (1 : Int))).toNat AV.unk)) || (xOf (xs.getD j AV.unk)) == (xOf (es.getD (IntKind.i64.wrap ((↑j : Int) - (1 : Int))).toNat AV.unk)) then k Ex.ret [AV.ptr (0 : Nat) (0 : Nat), AV.ptr (1 : Nat) (0 : Nat), AV.slv (Sh.agg [Sh.str, Sh.int IntKind.i64, Sh.int IntKind.i64]) xs, AV.int IntKind.i64 (↑es.length : Int), AV.int IntKind.i64 (↑j : Int)] [some (Row.box false [AV.int IntKind.i64 G, AV.int IntKind.i64 J, AV.slv (Sh.agg [Sh.str, Sh.int IntKind.i64, Sh.int IntKind.i64]) es]), some (Row.box false [AV.int IntKind.i64 (19 : Int), AV.int IntKind.i64 (↑j : Int)])] else bif decide (((↑es.length : Int) - IntKind.i64.wrap ((↑j : Int) + (1 : Int))).toNat < ((↑es.length : Int) - (↑j : Int)).toNat) then bif cnt (↑es.length : Int) (IntKind.i64.wrap ((↑j : Int) + (1 : Int))) es.length && (es.length.beq xs.length && (decide (G ≤ (1000000 : Int)) && decide (J ≤ (1000000 : Int)))) then bif (findN (fun i => codeN G J es xs i != (0 : Int)) es.length (IntKind.i64.wrap ((↑j : Int) + (1 : Int))).toNat).isSome then k Ex.ret [AV.ptr (0 : Nat) (0 : Nat), AV.ptr (1 : Nat) (0 : Nat), AV.slv (Sh.agg [Sh.str, Sh.int IntKind.i64, Sh.int IntKind.i64]) xs, AV.int IntKind.i64 (↑es.length : Int), AV.int IntKind.i64 (↑((findN (fun i => codeN G J es xs i != (0 : Int)) es.length (IntKind.i64.wrap ((↑j : Int) + (1 : Int))).toNat).getD (0 : Nat)) : Int)] [some (Row.box false [AV.int IntKind.i64 G, AV.int IntKind.i64 J, AV.slv (Sh.agg [Sh.str, Sh.int IntKind.i64, Sh.int IntKind.i64]) es]), some (Row.box false [AV.int IntKind.i64 (codeN G J es xs ((findN (fun i => codeN G J es xs i != (0 : Int)) es.length (IntKind.i64.wrap ((↑j : Int) + (1 : Int))).toNat).getD (0 : Nat))), AV.int IntKind.i64 (↑((findN (fun i => codeN G J es xs i != (0 : Int)) es.length (IntKind.i64.wrap ((↑j : Int) + (1 : Int))).toNat).getD (0 : Nat)) : Int)])] else k (Ex.exit (0 : Nat)) [AV.ptr (0 : Nat) (0 : Nat), AV.ptr (1 : Nat) (0 : Nat), AV.slv (Sh.agg [Sh.str, Sh.int IntKind.i64, Sh.int IntKind.i64]) xs, AV.int IntKind.i64 (↑es.length : Int), AV.int IntKind.i64 (↑es.length : Int)] [some (Row.box false [AV.int IntKind.i64 G, AV.int IntKind.i64 J, AV.slv (Sh.agg [Sh.str, Sh.int IntKind.i64, Sh.int IntKind.i64]) es]), some (Row.box false [AV.int IntKind.i64 (0 : Int), AV.int IntKind.i64 (0 : Int)])] else none else none else none else bif decide (((↑es.length : Int) - IntKind.i64.wrap ((↑j : Int) + (1 : Int))).toNat < ((↑es.length : Int) - (↑j : Int)).toNat) then bif cnt (↑es.length : Int) (IntKind.i64.wrap ((↑j : Int) + (1 : Int))) es.length && (es.length.beq xs.length && (decide (G ≤ (1000000 : Int)) && decide (J ≤ (1000000 : Int)))) then bif (findN (fun i => codeN G J es xs i != (0 : Int)) es.length (IntKind.i64.wrap ((↑j : Int) + (1 : Int))).toNat).isSome then k Ex.ret [AV.ptr (0 : Nat) (0 : Nat), AV.ptr (1 : Nat) (0 : Nat), AV.slv (Sh.agg [Sh.str, Sh.int IntKind.i64, Sh.int IntKind.i64]) xs, AV.int IntKind.i64 (↑es.length : Int), AV.int IntKind.i64 (↑((findN (fun i => codeN G J es xs i != (0 : Int)) es.length (IntKind.i64.wrap ((↑j : Int) + (1 : Int))).toNat).getD (0 : Nat)) : Int)] [some (Row.box false [AV.int IntKind.i64 G, AV.int IntKind.i64 J, AV.slv (Sh.agg [Sh.str, Sh.int IntKind.i64, Sh.int IntKind.i64]) es]), some (Row.box false [AV.int IntKind.i64 (codeN G J es xs ((findN (fun i => codeN G J es xs i != (0 : Int)) es.length (IntKind.i64.wrap ((↑j : Int) + (1 : Int))).toNat).getD (0 : Nat))), AV.int IntKind.i64 (↑((findN (fun i => codeN G J es xs i != (0 : Int)) es.length (IntKind.i64.wrap ((↑j : Int) + (1 : Int))).toNat).getD (0 : Nat)) : Int)])] else k (Ex.exit (0 : Nat)) [AV.ptr (0 : Nat) (0 : Nat), AV.ptr (1 : Nat) (0 : Nat), AV.slv (Sh.agg [Sh.str, Sh.int IntKind.i64, Sh.int IntKind.i64]) xs, AV.int IntKind.i64 (↑es.length : Int), AV.int IntKind.i64 (↑es.length : Int)] [some (Row.box false [AV.int IntKind.i64 G, AV.int IntKind.i64 J, AV.slv (Sh.agg [Sh.str, Sh.int IntKind.i64, Sh.int IntKind.i64]) es]), some (Row.box false [AV.int IntKind.i64 (0 : Int), AV.int IntKind.i64 (0 : Int)])] else none else none else none else k (Ex.exit (0 : Nat)) [AV.ptr (0 : Nat) (0 : Nat), AV.ptr (1 : Nat) (0 : Nat), AV.slv (Sh.agg [Sh.str, Sh.int IntKind.i64, Sh.int IntKind.i64]) xs, AV.int IntKind.i64 (↑es.length : Int), AV.int IntKind.i64 (↑j : Int)] [some (Row.box false [AV.int IntKind.i64 G, AV.int IntKind.i64 J, AV.slv (Sh.agg [Sh.str, Sh.int IntKind.i64, Sh.int IntKind.i64]) es]), some (Row.box false [AV.int IntKind.i64 (0 : Int), AV.int IntKind.i64 (0 : Int)])]) (by kernel_rfl) ?_
    rw [← hk]
    by_cases hlt : j < es.length
    · obtain ⟨e1, e2, e3, e4, e5⟩ := cnt_facts hlt hs
      rw [sT_step _ _ _ _ _ hlt]
      have e6 : inb (j : Int) xs.length = true := hp' ▸ e2
      have e7 : codeN G J es xs j = codeB (!nmB (xOf (xs.getD j .unk))) (!inR (gOf (xs.getD j .unk)) 0 G) (!inR (jOf (xs.getD j .unk)) 0 J) (gOf (xs.getD j .unk) == 0 && jOf (xs.getD j .unk) == 0) (ordN es (xs.getD j .unk) j) := rfl
      have ez := @gj_zero (gOf (xs.getD j .unk)) (jOf (xs.getD j .unk)) G J
      rcases Nat.eq_zero_or_pos j with h0 | h0
      · have e8 : ordN es (xs.getD j .unk) j = false := by subst h0; rfl
        have e9 : decide ((j : Int) > 0) = false := decide_eq_false (by omega)
        simp only [e1, e2, e3, e4, e5, e6, e7, e8, e9, hp, hG, hJ, cond_true, cond_false, Int.toNat_natCast, Bool.and_self]
        cases a2 : inR (gOf (xs.getD j .unk)) 0 G
        · generalize (!nmB (xOf (xs.getD j .unk))) = a1
          cases a1 <;> rfl
        · cases a3 : inR (jOf (xs.getD j .unk)) 0 J
          · generalize (!nmB (xOf (xs.getD j .unk))) = a1
            cases a1 <;> rfl
          · rw [ez a2 a3 hG' hJ']
            generalize (!nmB (xOf (xs.getD j .unk))) = a1
            generalize (gOf (xs.getD j .unk) == 0 && jOf (xs.getD j .unk) == 0) = a4
            cases a1 <;> cases a4 <;> rfl
      · have e8 : ordN es (xs.getD j .unk) j = (Op.bytesLess (xOf (xs.getD j .unk)) (xOf (es.getD (j - 1) .unk)) || xOf (xs.getD j .unk) == xOf (es.getD (j - 1) .unk)) := by
          unfold ordN; rw [decide_eq_true (by omega)]; rfl
        have e9 : decide ((j : Int) > 0) = true := decide_eq_true (by omega)
        have e10 : IntKind.i64.wrap ((j : Int) - 1) = ((j - 1 : Nat) : Int) := by rw [wrap_small _ (by omega) (by omega)]; omega
        have e11 : inb ((j - 1 : Nat) : Int) es.length = true := inb_true (by omega) (by omega)
        rw [show es.getD (IntKind.i64.wrap ((j : Int) - 1)).toNat .unk = es.getD (j - 1) .unk from by rw [e10, Int.toNat_natCast]]
        simp only [e1, e2, e3, e4, e5, e6, e7, e8, e9, e10, e11, hp, hG, hJ, cond_true, cond_false, Int.toNat_natCast, Bool.and_self]
        cases a2 : inR (gOf (xs.getD j .unk)) 0 G
        · generalize (!nmB (xOf (xs.getD j .unk))) = a1
          cases a1 <;> rfl
        · cases a3 : inR (jOf (xs.getD j .unk)) 0 J
          · generalize (!nmB (xOf (xs.getD j .unk))) = a1
            cases a1 <;> rfl
          · rw [ez a2 a3 hG' hJ']
            generalize (!nmB (xOf (xs.getD j .unk))) = a1
            generalize (gOf (xs.getD j .unk) == 0 && jOf (xs.getD j .unk) == 0) = a4
            generalize (Op.bytesLess (xOf (xs.getD j .unk)) (xOf (es.getD (j - 1) .unk)) || xOf (xs.getD j .unk) == xOf (es.getD (j - 1) .unk)) = a6
            cases a1 <;> cases a4 <;> cases a6 <;> rfl
    · obtain rfl : j = es.length := by omega
      rw [decide_eq_false (by omega), sT_end]
      rfl
  · cases h
def fault (x : Int × Int) : AV := .agg [.int .i64 x.1, .int .i64 x.2]
def badS (G J : Int) (es : List AV) : Option Nat := findN (fun i => codeN G J es es i != 0) es.length 0
def wordsF (G J : Int) (es : List AV) : Int × Int := bif !inR G 0 1000000 then (3, -2) else bif !inR J 0 1000000 then (3, -2) else bif decide ((es.length : Int) > 2000) then (2, -1) else bif (badS G J es).isSome then (codeN G J es es ((badS G J es).getD 0), (((badS G J es).getD 0 : Nat) : Int)) else (0, 0)
def wd (G J : Int) (es : List AV) : AV := .agg [.int .i64 G, .int .i64 J, .slv sK es]
def F18 : List AV → Tr AV
  | [.agg [.int .i64 G, .int .i64 J, .slv (.agg [.str, .int .i64, .int .i64]) es]] => .gd (small es.length) (.leaf (fault (wordsF G J es)))
  | _ => .no
theorem wordsF_br {α : Type} (G J : Int) (es : List AV) (k : AV → α) (z : α) : (bif !inR G 0 1000000 then k (.agg [.int .i64 3, .int .i64 (-2)]) else bif !inR J 0 1000000 then k (.agg [.int .i64 3, .int .i64 (-2)]) else bif decide ((es.length : Int) > 2000) then k (.agg [.int .i64 2, .int .i64 (-1)]) else bif decide (G ≤ 1000000) && decide (J ≤ 1000000) then bif (badS G J es).isSome then k (.agg [.int .i64 (codeN G J es es ((badS G J es).getD 0)), .int .i64 (((badS G J es).getD 0 : Nat) : Int)]) else k (.agg [.int .i64 0, .int .i64 0]) else z) = k (fault (wordsF G J es)) := by
  unfold wordsF
  cases hG : inR G 0 1000000
  · rfl
  · cases hJ : inR J 0 1000000
    · rfl
    · rw [decide_eq_true (inR_spec hG).2, decide_eq_true (inR_spec hJ).2]
      generalize decide ((es.length : Int) > 2000) = a
      cases a <;> cases (badS G J es) <;> rfl
theorem ok18 : SumOK Try.prog 18 (ofT F18) ∧ SNat (ofT F18) := by
  refine fn1 (K := [(6, l18)]) (b := b18) (l := l18) g1 Try.func18 (by kernel_rfl) (by kernel_rfl) loop18 fun ρ avs k r h => ?_
  unfold F18 at h
  split at h
  · rename_i G J es
    obtain ⟨hc, hk⟩ := gd_some h
    refine Eq.trans (b := bif !inR G (0 : Int) (1000000 : Int) then k (AV.agg [AV.int IntKind.i64 (3 : Int), AV.int IntKind.i64 (-2 : Int)]) else bif !inR J (0 : Int) (1000000 : Int) then k (AV.agg [AV.int IntKind.i64 (3 : Int), AV.int IntKind.i64 (-2 : Int)]) else bif decide ((↑es.length : Int) > (2000 : Int)) then k (AV.agg [AV.int IntKind.i64 (2 : Int), AV.int IntKind.i64 (-1 : Int)]) else bif cnt (↑es.length : Int) (0 : Int) es.length && (es.length.beq es.length && (decide (G ≤ (1000000 : Int)) && decide (J ≤ (1000000 : Int)))) then bif (findN (fun i => codeN G J es es i != (0 : Int)) es.length (0 : Nat)).isSome then k (AV.agg [AV.int IntKind.i64 (codeN G J es es ((findN (fun i => codeN G J es es i != (0 : Int)) es.length (0 : Nat)).getD (0 : Nat))), AV.int IntKind.i64 (↑((findN (fun i => codeN G J es es i != (0 : Int)) es.length (0 : Nat)).getD (0 : Nat)) : Int)]) else k (AV.agg [AV.int IntKind.i64 (0 : Int), AV.int IntKind.i64 (0 : Int)]) else none) (by kernel_rfl) ?_
    rw [← hk, cnt_zero hc, Nat.beq_refl]
    exact wordsF_br G J es k none
  · cases h
noncomputable def b19 : Code := ((Try.f19.body.map loopsOf).getD []).headD .skip
def L19 : List AV → List (Option Row) → Tr LOut
  | [.ptr 0 0, .ptr 1 0, .int .i64 i], [some (.box false [.int .i64 G, .int .i64 J, .slv (.agg [.str, .int .i64, .int .i64]) es]), some (.box false [.int .i64 0, .int .i64 0])] =>
    .gd (cnt es.length i es.length) (sT (fun i => codeN G J es es i != 0) es.length (fun q => .leaf (.ret, [.ptr 0 0, .ptr 1 0, .int .i64 (q : Nat)], [some (.box false [.int .i64 G, .int .i64 J, .slv sK es]), some (.box false [.int .i64 (codeN G J es es q), .int .i64 q])]))
     (.leaf (.exit 0, [.ptr 0 0, .ptr 1 0, .int .i64 es.length], [some (.box false [.int .i64 G, .int .i64 J, .slv sK es]), some (.box false [.int .i64 0, .int .i64 0])])) i.toNat)
  | _, _ => .no
def l19 : Ev.Loop := ⟨{ len := 83, slots := [1, 2, 3], rows := [0, 1] }, ofL L19⟩
def μ19 (vs : List AV) (rs : List (Option Row)) : Nat := match vs, rs with
  | [_, _, .int _ i], [some (.box _ [_, _, .slv _ es]), _] => ((es.length : Int) - i).toNat
  | _, _ => 0
theorem loop19 : LoopOK Try.prog G1 [(6, l19)] b19 l19 := by
  refine loopT g1.natOK rfl (KOK.nil (by kernel_rfl)) μ19 (fun ρ vs rs k r h => ?_)
  unfold L19 at h
  split at h
  · rename_i i G J es
    obtain ⟨hc, hk⟩ := gd_some h
    obtain ⟨_, hs, j, rfl, hj⟩ := cnt_spec hc
    rw [Int.toNat_natCast] at hk
    refine Eq.trans (b := bif decide ((↑j : Int) < (↑es.length : Int)) then bif inb (↑j : Int) es.length then bif !inR (↑(xOf (es.getD j AV.unk)).length : Int) (1 : Int) (200 : Int) then k Ex.ret [AV.ptr (0 : Nat) (0 : Nat), AV.ptr (1 : Nat) (0 : Nat), AV.int IntKind.i64 (↑j : Int)] [some (Row.box false [AV.int IntKind.i64 G, AV.int IntKind.i64 J, AV.slv (Sh.agg [Sh.str, Sh.int IntKind.i64, Sh.int IntKind.i64]) es]), some (Row.box false [AV.int IntKind.i64 (10 : Int), AV.int IntKind.i64 (↑j : Int)])] else bif !inR (gOf (es.getD j AV.unk)) (0 : Int) G then k Ex.ret [AV.ptr (0 : Nat) (0 : Nat), AV.ptr (1 : Nat) (0 : Nat), AV.int IntKind.i64 (↑j : Int)] [some (Row.box false [AV.int IntKind.i64 G, AV.int IntKind.i64 J, AV.slv (Sh.agg [Sh.str, Sh.int IntKind.i64, Sh.int IntKind.i64]) es]), some (Row.box false [AV.int IntKind.i64 (3 : Int), AV.int IntKind.i64 (↑j : Int)])] else bif !inR (jOf (es.getD j AV.unk)) (0 : Int) J then k Ex.ret [AV.ptr (0 : Nat) (0 : Nat), AV.ptr (1 : Nat) (0 : Nat), AV.int IntKind.i64 (↑j : Int)] [some (Row.box false [AV.int IntKind.i64 G, AV.int IntKind.i64 J, AV.slv (Sh.agg [Sh.str, Sh.int IntKind.i64, Sh.int IntKind.i64]) es]), some (Row.box false [AV.int IntKind.i64 (3 : Int), AV.int IntKind.i64 (↑j : Int)])] else bif (gOf (es.getD j AV.unk)) == (0 : Int) then bif (jOf (es.getD j AV.unk)) == (0 : Int) then k Ex.ret [AV.ptr (0 : Nat) (0 : Nat), AV.ptr (1 : Nat) (0 : Nat), AV.int IntKind.i64 (↑j : Int)] [some (Row.box false [AV.int IntKind.i64 G, AV.int IntKind.i64 J, AV.slv (Sh.agg [Sh.str, Sh.int IntKind.i64, Sh.int IntKind.i64]) es]), some (Row.box false [AV.int IntKind.i64 (3 : Int), AV.int IntKind.i64 (↑j : Int)])] else bif decide ((↑j : Int) > (0 : Int)) then bif inb (IntKind.i64.wrap ((↑j : Int) - (1 : Int))) es.length then bif Op.bytesLess (xOf (es.getD j AV.unk)) (xOf (es.getD (IntKind.i64.wrap ((↑j : Int) - (1 : Int))).toNat AV.unk)) || (xOf (es.getD j AV.unk)) == (xOf (es.getD (IntKind.i64.wrap ((↑j : Int) - (1 : Int))).toNat AV.unk)) then k Ex.ret [AV.ptr (0 : Nat) (0 : Nat), AV.ptr (1 : Nat) (0 : Nat), AV.int IntKind.i64 (↑j : Int)] [some (Row.box false [AV.int IntKind.i64 G, AV.int IntKind.i64 J, AV.slv (Sh.agg [Sh.str, Sh.int IntKind.i64, Sh.int IntKind.i64]) es]), some (Row.box false [AV.int IntKind.i64 (19 : Int), AV.int IntKind.i64 (↑j : Int)])] else bif decide (((↑es.length : Int) - IntKind.i64.wrap ((↑j : Int) + (1 : Int))).toNat < ((↑es.length : Int) - (↑j : Int)).toNat) then bif cnt (↑es.length : Int) (IntKind.i64.wrap ((↑j : Int) + (1 : Int))) es.length then bif (findN (fun i => codeN G J es es i != (0 : Int)) es.length (IntKind.i64.wrap ((↑j : Int) + (1 : Int))).toNat).isSome then k Ex.ret [AV.ptr (0 : Nat) (0 : Nat), AV.ptr (1 : Nat) (0 : Nat), AV.int IntKind.i64 (↑((findN (fun i => codeN G J es es i != (0 : Int)) es.length (IntKind.i64.wrap ((↑j : Int) + (1 : Int))).toNat).getD (0 : Nat)) : Int)] [some (Row.box false [AV.int IntKind.i64 G, AV.int IntKind.i64 J, AV.slv (Sh.agg [Sh.str, Sh.int IntKind.i64, Sh.int IntKind.i64]) es]), some (Row.box false [AV.int IntKind.i64 (codeN G J es es ((findN (fun i => codeN G J es es i != (0 : Int)) es.length (IntKind.i64.wrap ((↑j : Int) + (1 : Int))).toNat).getD (0 : Nat))), AV.int IntKind.i64 (↑((findN (fun i => codeN G J es es i != (0 : Int)) es.length (IntKind.i64.wrap ((↑j : Int) + (1 : Int))).toNat).getD (0 : Nat)) : Int)])] else k (Ex.exit (0 : Nat)) [AV.ptr (0 : Nat) (0 : Nat), AV.ptr (1 : Nat) (0 : Nat), AV.int IntKind.i64 (↑es.length : Int)] [some (Row.box false [AV.int IntKind.i64 G, AV.int IntKind.i64 J, AV.slv (Sh.agg [Sh.str, Sh.int IntKind.i64, Sh.int IntKind.i64]) es]), some (Row.box false [AV.int IntKind.i64 (0 : Int), AV.int IntKind.i64 (0 : Int)])] else none else none else none else bif decide (((↑es.length : Int) - IntKind.i64.wrap ((↑j : Int) + (1 : Int))).toNat < ((↑es.length : Int) - (↑j : Int)).toNat) then bif cnt (↑es.length : Int) (IntKind.i64.wrap ((↑j : Int) + (1 : Int))) es.length then bif (findN (fun i => codeN G J es es i != (0 : Int)) es.length (IntKind.i64.wrap ((↑j : Int) + (1 : Int))).toNat).isSome then k Ex.ret [AV.ptr (0 : Nat) (0 : Nat), AV.ptr (1 : Nat) (0 : Nat), AV.int IntKind.i64 (↑((findN (fun i => codeN G J es es i != (0 : Int)) es.length (IntKind.i64.wrap ((↑j : Int) + (1 : Int))).toNat).getD (0 : Nat)) : Int)] [some (Row.box false [AV.int IntKind.i64 G, AV.int IntKind.i64 J, AV.slv (Sh.agg [Sh.str, Sh.int IntKind.i64, Sh.int IntKind.i64]) es]), some (Row.box false [AV.int IntKind.i64 (codeN G J es es ((findN (fun i => codeN G J es es i != (0 : Int)) es.length (IntKind.i64.wrap ((↑j : Int) + (1 : Int))).toNat).getD (0 : Nat))), AV.int IntKind.i64 (↑((findN (fun i => codeN G J es es i != (0 : Int)) es.length (IntKind.i64.wrap ((↑j : Int) + (1 : Int))).toNat).getD (0 : Nat)) : Int)])] else k (Ex.exit (0 : Nat)) [AV.ptr (0 : Nat) (0 : Nat), AV.ptr (1 : Nat) (0 : Nat), AV.int IntKind.i64 (↑es.length : Int)] [some (Row.box false [AV.int IntKind.i64 G, AV.int IntKind.i64 J, AV.slv (Sh.agg [Sh.str, Sh.int IntKind.i64, Sh.int IntKind.i64]) es]), some (Row.box false [AV.int IntKind.i64 (0 : Int), AV.int IntKind.i64 (0 : Int)])] else none else none else bif decide ((↑j : Int) > (0 : Int)) then bif inb (IntKind.i64.wrap ((↑j : Int) - (1 : Int))) es.length then bif Op.bytesLess (xOf (es.getD j AV.unk)) (xOf (es.getD (IntKind.i64.wrap ((↑j : Int) - (1 : Int))).toNat AV.unk)) || (xOf (es.getD j AV.unk)) == (xOf (es.getD (IntKind.i64.wrap ((↑j : Int) - (1 : Int))).toNat AV.unk)) then k Ex.ret [AV.ptr (0 : Nat) (0 : Nat), AV.ptr (1 : Nat) (0 : Nat), AV.int IntKind.i64 (↑j : Int)] [some (Row.box false [AV.int IntKind.i64 G, AV.int IntKind.i64 J, AV.slv (Sh.agg [Sh.str, Sh.int IntKind.i64, Sh.int IntKind.i64]) es]), some (Row.box false [AV.int IntKind.i64 (19 : Int), AV.int IntKind.i64 (↑j : Int)])] else bif decide (((↑es.length : Int) - IntKind.i64.wrap ((↑j : Int) + (1 : Int))).toNat < ((↑es.length : Int) - (↑j : Int)).toNat) then bif cnt (↑es.length : Int) (IntKind.i64.wrap ((↑j : Int) + (1 : Int))) es.length then bif (findN (fun i => codeN G J es es i != (0 : Int)) es.length (IntKind.i64.wrap ((↑j : Int) + (1 : Int))).toNat).isSome then k Ex.ret [AV.ptr (0 : Nat) (0 : Nat), AV.ptr (1 : Nat) (0 : Nat), AV.int IntKind.i64 (↑((findN (fun i => codeN G J es es i != (0 : Int)) es.length (IntKind.i64.wrap ((↑j : Int) + (1 : Int))).toNat).getD (0 : Nat)) : Int)] [some (Row.box false [AV.int IntKind.i64 G, AV.int IntKind.i64 J, AV.slv (Sh.agg [Sh.str, Sh.int IntKind.i64, Sh.int IntKind.i64]) es]), some (Row.box false [AV.int IntKind.i64 (codeN G J es es ((findN (fun i => codeN G J es es i != (0 : Int)) es.length (IntKind.i64.wrap ((↑j : Int) + (1 : Int))).toNat).getD (0 : Nat))), AV.int IntKind.i64 (↑((findN (fun i => codeN G J es es i != (0 : Int)) es.length (IntKind.i64.wrap ((↑j : Int) + (1 : Int))).toNat).getD (0 : Nat)) : Int)])] else k (Ex.exit (0 : Nat)) [AV.ptr (0 : Nat) (0 : Nat), AV.ptr (1 : Nat) (0 : Nat), AV.int IntKind.i64 (↑es.length : Int)] [some (Row.box false [AV.int IntKind.i64 G, AV.int IntKind.i64 J, AV.slv (Sh.agg [Sh.str, Sh.int IntKind.i64, Sh.int IntKind.i64]) es]), some (Row.box false [AV.int IntKind.i64 (0 : Int), AV.int IntKind.i64 (0 : Int)])] else none else none else none else bif decide (((↑es.length : Int) - IntKind.i64.wrap ((↑j : Int) + (1 : Int))).toNat < ((↑es.length : Int) - (↑j : Int)).toNat) then bif cnt (↑es.length : Int) (IntKind.i64.wrap ((↑j : Int) + (1 : Int))) es.length then bif (findN (fun i => codeN G J es es i != (0 : Int)) es.length (IntKind.i64.wrap ((↑j : Int) + (1 : Int))).toNat).isSome then k Ex.ret [AV.ptr (0 : Nat) (0 : Nat), AV.ptr (1 : Nat) (0 : Nat), AV.int IntKind.i64 (↑((findN (fun i => codeN G J es es i != (0 : Int)) es.length (IntKind.i64.wrap ((↑j : Int) + (1 : Int))).toNat).getD (0 : Nat)) : Int)] [some (Row.box false [AV.int IntKind.i64 G, AV.int IntKind.i64 J, AV.slv (Sh.agg [Sh.str, Sh.int IntKind.i64, Sh.int IntKind.i64]) es]), some (Row.box false [AV.int IntKind.i64 (codeN G J es es ((findN (fun i => codeN G J es es i != (0 : Int)) es.length (IntKind.i64.wrap ((↑j : Int) + (1 : Int))).toNat).getD (0 : Nat))), AV.int IntKind.i64 (↑((findN (fun i => codeN G J es es i != (0 : Int)) es.length (IntKind.i64.wrap ((↑j : Int) + (1 : Int))).toNat).getD (0 : Nat)) : Int)])] else k (Ex.exit (0 : Nat)) [AV.ptr (0 : Nat) (0 : Nat), AV.ptr (1 : Nat) (0 : Nat), AV.int IntKind.i64 (↑es.length : Int)] [some (Row.box false [AV.int IntKind.i64 G, AV.int IntKind.i64 J, AV.slv (Sh.agg [Sh.str, Sh.int IntKind.i64, Sh.int IntKind.i64]) es]), some (Row.box false [AV.int IntKind.i64 (0 : Int), AV.int IntKind.i64 (0 : Int)])] else none else none else none else k (Ex.exit (0 : Nat)) [AV.ptr (0 : Nat) (0 : Nat), AV.ptr (1 : Nat) (0 : Nat), AV.int IntKind.i64 (↑j : Int)] [some (Row.box false [AV.int IntKind.i64 G, AV.int IntKind.i64 J, AV.slv (Sh.agg [Sh.str, Sh.int IntKind.i64, Sh.int IntKind.i64]) es]), some (Row.box false [AV.int IntKind.i64 (0 : Int), AV.int IntKind.i64 (0 : Int)])]) (by kernel_rfl) ?_
    rw [← hk]
    by_cases hlt : j < es.length
    · obtain ⟨e1, e2, e3, e4, e5⟩ := cnt_facts hlt hs
      rw [sT_step _ _ _ _ _ hlt]
      have e7 : codeN G J es es j = codeB (!inR (((xOf (es.getD j .unk)).length : Nat) : Int) 1 200) (!inR (gOf (es.getD j .unk)) 0 G) (!inR (jOf (es.getD j .unk)) 0 J) (gOf (es.getD j .unk) == 0 && jOf (es.getD j .unk) == 0) (ordN es (es.getD j .unk) j) := rfl
      rcases Nat.eq_zero_or_pos j with h0 | h0
      · have e8 : ordN es (es.getD j .unk) j = false := by subst h0; rfl
        have e9 : decide ((j : Int) > 0) = false := decide_eq_false (by omega)
        simp only [e1, e2, e3, e4, e5, e7, e8, e9, cond_true, cond_false, Int.toNat_natCast]
        generalize (!inR (((xOf (es.getD j .unk)).length : Nat) : Int) 1 200) = a1
        generalize (!inR (gOf (es.getD j .unk)) 0 G) = a2
        generalize (!inR (jOf (es.getD j .unk)) 0 J) = a3
        generalize (gOf (es.getD j .unk) == 0) = a4
        generalize (jOf (es.getD j .unk) == 0) = a5
        cases a1 <;> cases a2 <;> cases a3 <;> cases a4 <;> cases a5 <;> rfl
      · have e8 : ordN es (es.getD j .unk) j = (Op.bytesLess (xOf (es.getD j .unk)) (xOf (es.getD (j - 1) .unk)) || xOf (es.getD j .unk) == xOf (es.getD (j - 1) .unk)) := by
          unfold ordN; rw [decide_eq_true (by omega)]; rfl
        have e9 : decide ((j : Int) > 0) = true := decide_eq_true (by omega)
        have e10 : IntKind.i64.wrap ((j : Int) - 1) = ((j - 1 : Nat) : Int) := by rw [wrap_small _ (by omega) (by omega)]; omega
        have e11 : inb ((j - 1 : Nat) : Int) es.length = true := inb_true (by omega) (by omega)
        rw [show es.getD (IntKind.i64.wrap ((j : Int) - 1)).toNat .unk = es.getD (j - 1) .unk from by rw [e10, Int.toNat_natCast]]
        simp only [e1, e2, e3, e4, e5, e7, e8, e9, e10, e11, cond_true, Int.toNat_natCast]
        generalize (!inR (((xOf (es.getD j .unk)).length : Nat) : Int) 1 200) = a1
        generalize (!inR (gOf (es.getD j .unk)) 0 G) = a2
        generalize (!inR (jOf (es.getD j .unk)) 0 J) = a3
        generalize (gOf (es.getD j .unk) == 0) = a4
        generalize (jOf (es.getD j .unk) == 0) = a5
        generalize (Op.bytesLess (xOf (es.getD j .unk)) (xOf (es.getD (j - 1) .unk)) || xOf (es.getD j .unk) == xOf (es.getD (j - 1) .unk)) = a6
        cases a1 <;> cases a2 <;> cases a3 <;> cases a4 <;> cases a5 <;> cases a6 <;> rfl
    · obtain rfl : j = es.length := by omega
      rw [decide_eq_false (by omega), sT_end]
      rfl
  · cases h
theorem ok19 : SumOK Try.prog 19 (ofT F18) ∧ SNat (ofT F18) := by
  refine fn1 (K := [(6, l19)]) (b := b19) (l := l19) g1 Try.func19 (by kernel_rfl) (by kernel_rfl) loop19 fun ρ avs k r h => ?_
  unfold F18 at h
  split at h
  · rename_i G J es
    obtain ⟨hc, hk⟩ := gd_some h
    refine Eq.trans (b := bif !inR G (0 : Int) (1000000 : Int) then k (AV.agg [AV.int IntKind.i64 (3 : Int), AV.int IntKind.i64 (-2 : Int)]) else bif !inR J (0 : Int) (1000000 : Int) then k (AV.agg [AV.int IntKind.i64 (3 : Int), AV.int IntKind.i64 (-2 : Int)]) else bif decide ((↑es.length : Int) > (2000 : Int)) then k (AV.agg [AV.int IntKind.i64 (2 : Int), AV.int IntKind.i64 (-1 : Int)]) else bif cnt (↑es.length : Int) (0 : Int) es.length then bif (findN (fun i => codeN G J es es i != (0 : Int)) es.length (0 : Nat)).isSome then k (AV.agg [AV.int IntKind.i64 (codeN G J es es ((findN (fun i => codeN G J es es i != (0 : Int)) es.length (0 : Nat)).getD (0 : Nat))), AV.int IntKind.i64 (↑((findN (fun i => codeN G J es es i != (0 : Int)) es.length (0 : Nat)).getD (0 : Nat)) : Int)]) else k (AV.agg [AV.int IntKind.i64 (0 : Int), AV.int IntKind.i64 (0 : Int)]) else none) (by kernel_rfl) ?_
    rw [← hk, cnt_zero hc]
    show _ = k (fault (wordsF G J es))
    rw [← wordsF_br G J es k none]
    cases hG : inR G 0 1000000
    · rfl
    · cases hJ : inR J 0 1000000
      · rfl
      · rw [decide_eq_true (inR_spec hG).2, decide_eq_true (inR_spec hJ).2]
        rfl
  · cases h

/-! common, LearnFault -/
def strOf (e : AV) : List UInt8 := (e.cells.headD .unk).toStr
noncomputable def G20 : Env := { G1 with pure := (19, ofT F18) :: (18, ofT F18) :: G1.pure }
theorem g20 : GOK Try.prog G20 := GOK.also (GOK.also g1 ok18) ok19
def codeT (ts xs : List AV) (i : Nat) : Int := bif !nmB (xOf (xs.getD i .unk)) then 10 else bif ordN ts (xs.getD i .unk) i then 19 else 0
noncomputable def b20 : Code := ((Try.f20.body.map loopsOf).getD []).headD .skip
def L20 : List AV → List (Option Row) → Tr LOut
  | [.slv .str ts, .ptr 1 0, .slv .str xs, .int .i64 n, .int .i64 i], [some (.box false [.int .i64 0, .int .i64 0])] =>
    .gd (cnt n i ts.length && (Nat.beq ts.length xs.length && decide (ts.length ≤ 1000))) (sT (fun i => codeT ts xs i != 0) ts.length (fun q => .leaf (.ret, [.slv .str ts, .ptr 1 0, .slv .str xs, .int .i64 n, .int .i64 (q : Nat)], [some (.box false [.int .i64 (codeT ts xs q), .int .i64 (-10 - (q : Int))])]))
     (.leaf (.exit 0, [.slv .str ts, .ptr 1 0, .slv .str xs, .int .i64 n, .int .i64 ts.length], [some (.box false [.int .i64 0, .int .i64 0])])) i.toNat)
  | _, _ => .no
def l20 : Ev.Loop := ⟨{ len := 46, slots := [1, 4, 17, 18, 19], rows := [1] }, ofL L20⟩
theorem loop20 : LoopOK Try.prog G20 [(7, l20)] b20 l20 := by
  refine loopT g20.natOK rfl (KOK.nil (by kernel_rfl)) μ18 (fun ρ vs rs k r h => ?_)
  unfold L20 at h
  split at h
  · rename_i ts xs n i
    obtain ⟨hc, hk⟩ := gd_some h
    simp only [Bool.and_eq_true] at hc
    obtain ⟨hc, hp, hG⟩ := hc
    have hG' := of_decide_eq_true hG
    have hp' : ts.length = xs.length := Nat.eq_of_beq_eq_true hp
    obtain ⟨rfl, hs, j, rfl, hj⟩ := cnt_spec hc
    rw [Int.toNat_natCast] at hk
    refine Eq.trans (b := bif decide ((↑j : Int) < (↑ts.length : Int)) then bif inb (↑j : Int) xs.length then bif !nmB (xOf (xs.getD j AV.unk)) then k Ex.ret [AV.slv Sh.str ts, AV.ptr (1 : Nat) (0 : Nat), AV.slv Sh.str xs, AV.int IntKind.i64 (↑ts.length : Int), AV.int IntKind.i64 (↑j : Int)] [some (Row.box false [AV.int IntKind.i64 (10 : Int), AV.int IntKind.i64 (IntKind.i64.wrap ((-10 : Int) - (↑j : Int)))])] else bif decide ((↑j : Int) > (0 : Int)) then bif inb (IntKind.i64.wrap ((↑j : Int) - (1 : Int))) ts.length then bif Op.bytesLess (xOf (xs.getD j AV.unk)) (xOf (ts.getD (IntKind.i64.wrap ((↑j : Int) - (1 : Int))).toNat AV.unk)) || (xOf (xs.getD j AV.unk)) == (xOf (ts.getD (IntKind.i64.wrap ((↑j : Int) - (1 : Int))).toNat AV.unk)) then k Ex.ret [AV.slv Sh.str ts, AV.ptr (1 : Nat) (0 : Nat), AV.slv Sh.str xs, AV.int IntKind.i64 (↑ts.length : Int), AV.int IntKind.i64 (↑j : Int)] [some (Row.box false [AV.int IntKind.i64 (19 : Int), AV.int IntKind.i64 (IntKind.i64.wrap ((-10 : Int) - (↑j : Int)))])] else bif decide (((↑ts.length : Int) - IntKind.i64.wrap ((↑j : Int) + (1 : Int))).toNat < ((↑ts.length : Int) - (↑j : Int)).toNat) then bif cnt (↑ts.length : Int) (IntKind.i64.wrap ((↑j : Int) + (1 : Int))) ts.length && (ts.length.beq xs.length && decide (ts.length ≤ (1000 : Nat))) then bif (findN (fun i => codeT ts xs i != (0 : Int)) ts.length (IntKind.i64.wrap ((↑j : Int) + (1 : Int))).toNat).isSome then k Ex.ret [AV.slv Sh.str ts, AV.ptr (1 : Nat) (0 : Nat), AV.slv Sh.str xs, AV.int IntKind.i64 (↑ts.length : Int), AV.int IntKind.i64 (↑((findN (fun i => codeT ts xs i != (0 : Int)) ts.length (IntKind.i64.wrap ((↑j : Int) + (1 : Int))).toNat).getD (0 : Nat)) : Int)] [some (Row.box false [AV.int IntKind.i64 (codeT ts xs ((findN (fun i => codeT ts xs i != (0 : Int)) ts.length (IntKind.i64.wrap ((↑j : Int) + (1 : Int))).toNat).getD (0 : Nat))), AV.int IntKind.i64 ((-10 : Int) - (↑((findN (fun i => codeT ts xs i != (0 : Int)) ts.length (IntKind.i64.wrap ((↑j : Int) + (1 : Int))).toNat).getD (0 : Nat)) : Int))])] else k (Ex.exit (0 : Nat)) [AV.slv Sh.str ts, AV.ptr (1 : Nat) (0 : Nat), AV.slv Sh.str xs, AV.int IntKind.i64 (↑ts.length : Int), AV.int IntKind.i64 (↑ts.length : Int)] [some (Row.box false [AV.int IntKind.i64 (0 : Int), AV.int IntKind.i64 (0 : Int)])] else none else none else none else bif decide (((↑ts.length : Int) - IntKind.i64.wrap ((↑j : Int) + (1 : Int))).toNat < ((↑ts.length : Int) - (↑j : Int)).toNat) then bif cnt (↑ts.length : Int) (IntKind.i64.wrap ((↑j : Int) + (1 : Int))) ts.length && (ts.length.beq xs.length && decide (ts.length ≤ (1000 : Nat))) then bif (findN (fun i => codeT ts xs i != (0 : Int)) ts.length (IntKind.i64.wrap ((↑j : Int) + (1 : Int))).toNat).isSome then k Ex.ret [AV.slv Sh.str ts, AV.ptr (1 : Nat) (0 : Nat), AV.slv Sh.str xs, AV.int IntKind.i64 (↑ts.length : Int), AV.int IntKind.i64 (↑((findN (fun i => codeT ts xs i != (0 : Int)) ts.length (IntKind.i64.wrap ((↑j : Int) + (1 : Int))).toNat).getD (0 : Nat)) : Int)] [some (Row.box false [AV.int IntKind.i64 (codeT ts xs ((findN (fun i => codeT ts xs i != (0 : Int)) ts.length (IntKind.i64.wrap ((↑j : Int) + (1 : Int))).toNat).getD (0 : Nat))), AV.int IntKind.i64 ((-10 : Int) - (↑((findN (fun i => codeT ts xs i != (0 : Int)) ts.length (IntKind.i64.wrap ((↑j : Int) + (1 : Int))).toNat).getD (0 : Nat)) : Int))])] else k (Ex.exit (0 : Nat)) [AV.slv Sh.str ts, AV.ptr (1 : Nat) (0 : Nat), AV.slv Sh.str xs, AV.int IntKind.i64 (↑ts.length : Int), AV.int IntKind.i64 (↑ts.length : Int)] [some (Row.box false [AV.int IntKind.i64 (0 : Int), AV.int IntKind.i64 (0 : Int)])] else none else none else none else k (Ex.exit (0 : Nat)) [AV.slv Sh.str ts, AV.ptr (1 : Nat) (0 : Nat), AV.slv Sh.str xs, AV.int IntKind.i64 (↑ts.length : Int), AV.int IntKind.i64 (↑j : Int)] [some (Row.box false [AV.int IntKind.i64 (0 : Int), AV.int IntKind.i64 (0 : Int)])]) (by kernel_rfl) ?_
    rw [← hk]
    by_cases hlt : j < ts.length
    · obtain ⟨e1, e2, e3, e4, e5⟩ := cnt_facts hlt hs
      rw [sT_step _ _ _ _ _ hlt]
      have e6 : inb (j : Int) xs.length = true := hp' ▸ e2
      have e7 : codeT ts xs j = bif !nmB (xOf (xs.getD j .unk)) then 10 else bif ordN ts (xs.getD j .unk) j then 19 else 0 := rfl
      have e12 : IntKind.i64.wrap (-10 - (j : Int)) = -10 - (j : Int) := wrap_mid _ (by omega) (by omega)
      rcases Nat.eq_zero_or_pos j with h0 | h0
      · have e8 : ordN ts (xs.getD j .unk) j = false := by subst h0; rfl
        have e9 : decide ((j : Int) > 0) = false := decide_eq_false (by omega)
        simp only [e1, e2, e3, e4, e5, e6, e7, e8, e9, e12, hp, hG, cond_true, cond_false, Int.toNat_natCast, Bool.and_self]
        generalize (!nmB (xOf (xs.getD j .unk))) = a1
        cases a1 <;> rfl
      · have e8 : ordN ts (xs.getD j .unk) j = (Op.bytesLess (xOf (xs.getD j .unk)) (xOf (ts.getD (j - 1) .unk)) || xOf (xs.getD j .unk) == xOf (ts.getD (j - 1) .unk)) := by
          unfold ordN; rw [decide_eq_true (by omega)]; rfl
        have e9 : decide ((j : Int) > 0) = true := decide_eq_true (by omega)
        have e10 : IntKind.i64.wrap ((j : Int) - 1) = ((j - 1 : Nat) : Int) := by rw [wrap_small _ (by omega) (by omega)]; omega
        have e11 : inb ((j - 1 : Nat) : Int) ts.length = true := inb_true (by omega) (by omega)
        rw [show ts.getD (IntKind.i64.wrap ((j : Int) - 1)).toNat .unk = ts.getD (j - 1) .unk from by rw [e10, Int.toNat_natCast]]
        simp only [e1, e2, e3, e4, e5, e6, e7, e8, e9, e10, e11, e12, hp, hG, cond_true, cond_false, Int.toNat_natCast, Bool.and_self]
        generalize (!nmB (xOf (xs.getD j .unk))) = a1
        generalize (Op.bytesLess (xOf (xs.getD j .unk)) (xOf (ts.getD (j - 1) .unk)) || xOf (xs.getD j .unk) == xOf (ts.getD (j - 1) .unk)) = a6
        cases a1 <;> cases a6 <;> rfl
    · obtain rfl : j = ts.length := by omega
      rw [decide_eq_false (by omega), sT_end]
      rfl
  · cases h
def badT (ts : List AV) : Option Nat := findN (fun i => codeT ts ts i != 0) ts.length 0
def commF (G J : Int) (es ts : List AV) : Int × Int := bif (wordsF G J es).1 != 0 then wordsF G J es else bif decide ((ts.length : Int) > 1000) then (2, -3) else bif (badT ts).isSome then (codeT ts ts ((badT ts).getD 0), -10 - (((badT ts).getD 0 : Nat) : Int)) else (0, 0)
def F20 : List AV → Tr AV
  | [.agg [.int .i64 G, .int .i64 J, .slv (.agg [.str, .int .i64, .int .i64]) es], .slv .str ts] => .gd (small es.length && small ts.length) (.leaf (fault (commF G J es ts)))
  | _ => .no
theorem commF_br {α : Type} (G J : Int) (es ts : List AV) (k : AV → α) (z : α) : (bif (wordsF G J es).1 != 0 then k (.agg [.int .i64 (wordsF G J es).1, .int .i64 (wordsF G J es).2]) else bif decide ((ts.length : Int) > 1000) then k (.agg [.int .i64 2, .int .i64 (-3)]) else bif decide (ts.length ≤ 1000) then bif (badT ts).isSome then k (.agg [.int .i64 (codeT ts ts ((badT ts).getD 0)), .int .i64 (-10 - (((badT ts).getD 0 : Nat) : Int))]) else k (.agg [.int .i64 0, .int .i64 0]) else z) = k (fault (commF G J es ts)) := by
  unfold commF
  cases (wordsF G J es).1 != 0
  · by_cases h : (ts.length : Int) > 1000
    · rw [decide_eq_true h]; rfl
    · rw [decide_eq_false h, decide_eq_true (by omega : ts.length ≤ 1000)]
      cases (badT ts) <;> rfl
  · rfl
theorem ok20 : SumOK Try.prog 20 (ofT F20) ∧ SNat (ofT F20) := by
  refine fn1 (K := [(7, l20)]) (b := b20) (l := l20) g20 Try.func20 (by kernel_rfl) (by kernel_rfl) loop20 fun ρ avs k r h => ?_
  unfold F20 at h
  split at h
  · rename_i G J es ts
    obtain ⟨hc, hk⟩ := gd_some h
    simp only [Bool.and_eq_true] at hc
    refine Eq.trans (b := bif small es.length then bif (wordsF G J es).fst != (0 : Int) then k (AV.agg [AV.int IntKind.i64 (wordsF G J es).fst, AV.int IntKind.i64 (wordsF G J es).snd]) else bif decide ((↑ts.length : Int) > (1000 : Int)) then k (AV.agg [AV.int IntKind.i64 (2 : Int), AV.int IntKind.i64 (-3 : Int)]) else bif cnt (↑ts.length : Int) (0 : Int) ts.length && (ts.length.beq ts.length && decide (ts.length ≤ (1000 : Nat))) then bif (findN (fun i => codeT ts ts i != (0 : Int)) ts.length (0 : Nat)).isSome then k (AV.agg [AV.int IntKind.i64 (codeT ts ts ((findN (fun i => codeT ts ts i != (0 : Int)) ts.length (0 : Nat)).getD (0 : Nat))), AV.int IntKind.i64 ((-10 : Int) - (↑((findN (fun i => codeT ts ts i != (0 : Int)) ts.length (0 : Nat)).getD (0 : Nat)) : Int))]) else k (AV.agg [AV.int IntKind.i64 (0 : Int), AV.int IntKind.i64 (0 : Int)]) else none else none) (by kernel_rfl) ?_
    rw [← hk, cnt_zero hc.2, hc.1, Nat.beq_refl]
    exact commF_br G J es ts k none
  · cases h
noncomputable def b9 : Code := ((Try.f9.body.map loopsOf).getD []).headD .skip
def L9 : List AV → List (Option Row) → Tr LOut
  | [.slv .str ts, .ptr 1 0, .int .i64 i], [some (.box false [.int .i64 0, .int .i64 0])] =>
    .gd (cnt ts.length i ts.length && decide (ts.length ≤ 1000)) (sT (fun i => codeT ts ts i != 0) ts.length (fun q => .leaf (.ret, [.slv .str ts, .ptr 1 0, .int .i64 (q : Nat)], [some (.box false [.int .i64 (codeT ts ts q), .int .i64 (-10 - (q : Int))])]))
     (.leaf (.exit 0, [.slv .str ts, .ptr 1 0, .int .i64 ts.length], [some (.box false [.int .i64 0, .int .i64 0])])) i.toNat)
  | _, _ => .no
def l9 : Ev.Loop := ⟨{ len := 51, slots := [1, 4, 6], rows := [1] }, ofL L9⟩
def μ9 (vs : List AV) (_ : List (Option Row)) : Nat := match vs with
  | [.slv _ es, _, .int _ i] => ((es.length : Int) - i).toNat
  | _ => 0
theorem loop9 : LoopOK Try.prog G20 [(7, l9)] b9 l9 := by
  refine loopT g20.natOK rfl (KOK.nil (by kernel_rfl)) μ9 (fun ρ vs rs k r h => ?_)
  unfold L9 at h
  split at h
  · rename_i ts i
    obtain ⟨hc, hk⟩ := gd_some h
    simp only [Bool.and_eq_true] at hc
    obtain ⟨hc, hG⟩ := hc
    have hG' := of_decide_eq_true hG
    obtain ⟨_, hs, j, rfl, hj⟩ := cnt_spec hc
    rw [Int.toNat_natCast] at hk
    refine Eq.trans (b := bif decide ((↑j : Int) < (↑ts.length : Int)) then bif inb (↑j : Int) ts.length then bif !inR (↑(xOf (ts.getD j AV.unk)).length : Int) (1 : Int) (200 : Int) then k Ex.ret [AV.slv Sh.str ts, AV.ptr (1 : Nat) (0 : Nat), AV.int IntKind.i64 (↑j : Int)] [some (Row.box false [AV.int IntKind.i64 (10 : Int), AV.int IntKind.i64 (IntKind.i64.wrap ((-10 : Int) - (↑j : Int)))])] else bif decide ((↑j : Int) > (0 : Int)) then bif inb (↑j : Int) ts.length then bif inb (IntKind.i64.wrap ((↑j : Int) - (1 : Int))) ts.length then bif Op.bytesLess (xOf (ts.getD j AV.unk)) (xOf (ts.getD (IntKind.i64.wrap ((↑j : Int) - (1 : Int))).toNat AV.unk)) || (xOf (ts.getD j AV.unk)) == (xOf (ts.getD (IntKind.i64.wrap ((↑j : Int) - (1 : Int))).toNat AV.unk)) then k Ex.ret [AV.slv Sh.str ts, AV.ptr (1 : Nat) (0 : Nat), AV.int IntKind.i64 (↑j : Int)] [some (Row.box false [AV.int IntKind.i64 (19 : Int), AV.int IntKind.i64 (IntKind.i64.wrap ((-10 : Int) - (↑j : Int)))])] else bif decide (((↑ts.length : Int) - IntKind.i64.wrap ((↑j : Int) + (1 : Int))).toNat < ((↑ts.length : Int) - (↑j : Int)).toNat) then bif cnt (↑ts.length : Int) (IntKind.i64.wrap ((↑j : Int) + (1 : Int))) ts.length && decide (ts.length ≤ (1000 : Nat)) then bif (findN (fun i => codeT ts ts i != (0 : Int)) ts.length (IntKind.i64.wrap ((↑j : Int) + (1 : Int))).toNat).isSome then k Ex.ret [AV.slv Sh.str ts, AV.ptr (1 : Nat) (0 : Nat), AV.int IntKind.i64 (↑((findN (fun i => codeT ts ts i != (0 : Int)) ts.length (IntKind.i64.wrap ((↑j : Int) + (1 : Int))).toNat).getD (0 : Nat)) : Int)] [some (Row.box false [AV.int IntKind.i64 (codeT ts ts ((findN (fun i => codeT ts ts i != (0 : Int)) ts.length (IntKind.i64.wrap ((↑j : Int) + (1 : Int))).toNat).getD (0 : Nat))), AV.int IntKind.i64 ((-10 : Int) - (↑((findN (fun i => codeT ts ts i != (0 : Int)) ts.length (IntKind.i64.wrap ((↑j : Int) + (1 : Int))).toNat).getD (0 : Nat)) : Int))])] else k (Ex.exit (0 : Nat)) [AV.slv Sh.str ts, AV.ptr (1 : Nat) (0 : Nat), AV.int IntKind.i64 (↑ts.length : Int)] [some (Row.box false [AV.int IntKind.i64 (0 : Int), AV.int IntKind.i64 (0 : Int)])] else none else none else none else none else bif decide (((↑ts.length : Int) - IntKind.i64.wrap ((↑j : Int) + (1 : Int))).toNat < ((↑ts.length : Int) - (↑j : Int)).toNat) then bif cnt (↑ts.length : Int) (IntKind.i64.wrap ((↑j : Int) + (1 : Int))) ts.length && decide (ts.length ≤ (1000 : Nat)) then bif (findN (fun i => codeT ts ts i != (0 : Int)) ts.length (IntKind.i64.wrap ((↑j : Int) + (1 : Int))).toNat).isSome then k Ex.ret [AV.slv Sh.str ts, AV.ptr (1 : Nat) (0 : Nat), AV.int IntKind.i64 (↑((findN (fun i => codeT ts ts i != (0 : Int)) ts.length (IntKind.i64.wrap ((↑j : Int) + (1 : Int))).toNat).getD (0 : Nat)) : Int)] [some (Row.box false [AV.int IntKind.i64 (codeT ts ts ((findN (fun i => codeT ts ts i != (0 : Int)) ts.length (IntKind.i64.wrap ((↑j : Int) + (1 : Int))).toNat).getD (0 : Nat))), AV.int IntKind.i64 ((-10 : Int) - (↑((findN (fun i => codeT ts ts i != (0 : Int)) ts.length (IntKind.i64.wrap ((↑j : Int) + (1 : Int))).toNat).getD (0 : Nat)) : Int))])] else k (Ex.exit (0 : Nat)) [AV.slv Sh.str ts, AV.ptr (1 : Nat) (0 : Nat), AV.int IntKind.i64 (↑ts.length : Int)] [some (Row.box false [AV.int IntKind.i64 (0 : Int), AV.int IntKind.i64 (0 : Int)])] else none else none else none else k (Ex.exit (0 : Nat)) [AV.slv Sh.str ts, AV.ptr (1 : Nat) (0 : Nat), AV.int IntKind.i64 (↑j : Int)] [some (Row.box false [AV.int IntKind.i64 (0 : Int), AV.int IntKind.i64 (0 : Int)])]) (by kernel_rfl) ?_
    rw [← hk]
    by_cases hlt : j < ts.length
    · obtain ⟨e1, e2, e3, e4, e5⟩ := cnt_facts hlt hs
      rw [sT_step _ _ _ _ _ hlt]
      have e7 : codeT ts ts j = bif !inR (((xOf (ts.getD j .unk)).length : Nat) : Int) 1 200 then 10 else bif ordN ts (ts.getD j .unk) j then 19 else 0 := rfl
      have e12 : IntKind.i64.wrap (-10 - (j : Int)) = -10 - (j : Int) := wrap_mid _ (by omega) (by omega)
      rcases Nat.eq_zero_or_pos j with h0 | h0
      · have e8 : ordN ts (ts.getD j .unk) j = false := by subst h0; rfl
        have e9 : decide ((j : Int) > 0) = false := decide_eq_false (by omega)
        simp only [e1, e2, e3, e4, e5, e7, e8, e9, e12, hG, cond_true, cond_false, Int.toNat_natCast, Bool.and_self]
        generalize (!inR (((xOf (ts.getD j .unk)).length : Nat) : Int) 1 200) = a1
        cases a1 <;> rfl
      · have e8 : ordN ts (ts.getD j .unk) j = (Op.bytesLess (xOf (ts.getD j .unk)) (xOf (ts.getD (j - 1) .unk)) || xOf (ts.getD j .unk) == xOf (ts.getD (j - 1) .unk)) := by
          unfold ordN; rw [decide_eq_true (by omega)]; rfl
        have e9 : decide ((j : Int) > 0) = true := decide_eq_true (by omega)
        have e10 : IntKind.i64.wrap ((j : Int) - 1) = ((j - 1 : Nat) : Int) := by rw [wrap_small _ (by omega) (by omega)]; omega
        have e11 : inb ((j - 1 : Nat) : Int) ts.length = true := inb_true (by omega) (by omega)
        rw [show ts.getD (IntKind.i64.wrap ((j : Int) - 1)).toNat .unk = ts.getD (j - 1) .unk from by rw [e10, Int.toNat_natCast]]
        simp only [e1, e2, e3, e4, e5, e7, e8, e9, e10, e11, e12, hG, cond_true, cond_false, Int.toNat_natCast, Bool.and_self]
        generalize (!inR (((xOf (ts.getD j .unk)).length : Nat) : Int) 1 200) = a1
        generalize (Op.bytesLess (xOf (ts.getD j .unk)) (xOf (ts.getD (j - 1) .unk)) || xOf (ts.getD j .unk) == xOf (ts.getD (j - 1) .unk)) = a6
        cases a1 <;> cases a6 <;> rfl
    · obtain rfl : j = ts.length := by omega
      rw [decide_eq_false (by omega), sT_end]
      rfl
  · cases h
theorem ok9 : SumOK Try.prog 9 (ofT F20) ∧ SNat (ofT F20) := by
  refine fn1 (K := [(7, l9)]) (b := b9) (l := l9) g20 Try.func9 (by kernel_rfl) (by kernel_rfl) loop9 fun ρ avs k r h => ?_
  unfold F20 at h
  split at h
  · rename_i G J es ts
    obtain ⟨hc, hk⟩ := gd_some h
    simp only [Bool.and_eq_true] at hc
    refine Eq.trans (b := bif small es.length then bif (wordsF G J es).fst != (0 : Int) then k (AV.agg [AV.int IntKind.i64 (wordsF G J es).fst, AV.int IntKind.i64 (wordsF G J es).snd]) else bif decide ((↑ts.length : Int) > (1000 : Int)) then k (AV.agg [AV.int IntKind.i64 (2 : Int), AV.int IntKind.i64 (-3 : Int)]) else bif cnt (↑ts.length : Int) (0 : Int) ts.length && decide (ts.length ≤ (1000 : Nat)) then bif (findN (fun i => codeT ts ts i != (0 : Int)) ts.length (0 : Nat)).isSome then k (AV.agg [AV.int IntKind.i64 (codeT ts ts ((findN (fun i => codeT ts ts i != (0 : Int)) ts.length (0 : Nat)).getD (0 : Nat))), AV.int IntKind.i64 ((-10 : Int) - (↑((findN (fun i => codeT ts ts i != (0 : Int)) ts.length (0 : Nat)).getD (0 : Nat)) : Int))]) else k (AV.agg [AV.int IntKind.i64 (0 : Int), AV.int IntKind.i64 (0 : Int)]) else none else none) (by kernel_rfl) ?_
    rw [← hk, cnt_zero hc.2, hc.1]
    exact commF_br G J es ts k none
  · cases h
end Go.Proofs.Ytpgaobdgohlegaa
