/-
  Base64: Encode.
-/
import Derived.Test.YtpmlhkoianekfaaGreatDoorEnV
import Derived.Test.YtpmlhkoianekfaaGreatDoorEnO

namespace Go.Proofs.YtpmlhkoianekfaaGreatDoor
open Go.Ev
noncomputable def G48 : Env := { pure := [(82, ofT F82)] }
theorem g48 : GOK Tryz.prog G48 := GOK.also g0 ok82
noncomputable def b48 : Code := ((Tryz.f48.body.map loopsOf).getD []).headD .skip
noncomputable def c48 : Code := (((Tryz.f48.body.map loopsOf).getD []).tail).headD .skip
noncomputable def d48 : Code := ((loopsOf c48)).headD .skip
def ints (l : List Nat) : List AV := l.map fun n : Nat => AV.int .i64 (n : Int)
def nI (e : AV) : Nat := (iE e).toNat
def isI (m : Nat) : AV → Bool
  | .int .i64 n => decide (0 ≤ n ∧ n ≤ (m : Int))
  | _ => false
theorem isI_at {m : Nat} {ps : List AV} (h : ps.all (isI m) = true) {j : Nat} (hj : j < ps.length) : iE (ps.getD j .unk) = (nI (ps.getD j .unk) : Int) ∧ nI (ps.getD j .unk) ≤ m := by
  have := List.all_eq_true.1 h (ps.getD j .unk) (by rw [getD_eq hj]; exact List.getElem_mem hj)
  generalize ps.getD j .unk = e at this
  unfold isI at this
  split at this
  · rename_i n
    obtain ⟨h1, h2⟩ := of_decide_eq_true this
    unfold nI
    show n = ((n.toNat : Nat) : Int) ∧ n.toNat ≤ m
    omega
  · cases this
theorem ints_nI (l : List Nat) : (ints l).map nI = l := by
  unfold ints
  rw [List.map_map]
  conv => rhs; rw [← List.map_id l]
  exact List.map_congr_left fun n _ => Int.toNat_natCast n
theorem ints_all {m : Nat} {l : List Nat} (h : ∀ p ∈ l, p ≤ m) : (ints l).all (isI m) = true := List.all_eq_true.2 fun x hx => by
  obtain ⟨n, hn, rfl⟩ := List.mem_map.1 hx
  exact decide_eq_true (by have := h n hn; omega)
theorem by3 : Tryz.prog.bytesOf 3 ≤ 1000 := of_decide_eq_true (by kernel_rfl)
def L48 : List AV → List (Option Row) → Tr LOut
  | [.str s, .own 900, .int .i64 i], [some (.arr false (.int .i64) e ps none)] =>
    .gd (decide (1 ≤ i ∧ ps.length ≤ i ∧ i ≤ 200000 ∧ s.length ≤ 100000 ∧ e = 3)) (.leaf (.exit 0, [.str s, .own 900, .int .i64 ((s.length - i.toNat + i.toNat : Nat) : Int)], [some (.arr false (.int .i64) e (ps ++ ints (dPts s (s.length - i.toNat) i.toNat)) none)]))
  | _, _ => .no
def l48 : Ev.Loop := ⟨{ len := 87, slots := [5, 6, 7], rows := [900], homes := [(6, 900, 3)] }, ofL L48⟩
def μ48 (vs : List AV) (_ : List (Option Row)) : Nat := match vs with
  | [.str s, _, .int _ i] => ((s.length : Int) - i).toNat
  | _ => 0
theorem loop48 (K : List (Nat × Ev.Loop)) : LoopOK Tryz.prog G48 K b48 l48 := by
  refine loopT g48.natOK rfl (KOK.nil (by kernel_rfl)) μ48 (fun ρ vs rs k r h => ?_)
  unfold L48 at h
  split at h
  · rename_i s i e ps
    obtain ⟨hc, hk⟩ := gd_some h
    obtain ⟨h1, h2, h4, h3, rfl⟩ := of_decide_eq_true hc
    obtain ⟨j, rfl⟩ : ∃ j : Nat, i = j := ⟨i.toNat, by omega⟩
    rw [Int.toNat_natCast] at hk
    refine Eq.trans (b := have c80 := (IntKind.i64.wrap ((↑j : Int) + (1 : Int))); have c81 := [AV.str s, AV.own 900, AV.int IntKind.i64 (↑(s.length - c80.toNat + c80.toNat) : Int)]; bif decide ((↑j : Int) < (↑s.length : Int)) then bif inb (↑j : Int) s.length then bif isB' (↑(s.getD j (0 : UInt8)).toNat : Int) then bif inb (IntKind.i64.wrap ((↑j : Int) - (1 : Int))) s.length then bif !isB' (↑(s.getD (IntKind.i64.wrap ((↑j : Int) - (1 : Int))).toNat (0 : UInt8)).toNat : Int) then bif roomB (ps.length + [AV.int IntKind.i64 (↑j : Int)].length) (Tryz.prog.bytesOf 3) then bif decide (((↑s.length : Int) - IntKind.i64.wrap ((↑j : Int) + (1 : Int))).toNat < ((↑s.length : Int) - (↑j : Int)).toNat) then bif decide ((1 : Int) ≤ IntKind.i64.wrap ((↑j : Int) + (1 : Int)) ∧ (↑(ps ++ [AV.int IntKind.i64 (↑j : Int)]).length : Int) ≤ IntKind.i64.wrap ((↑j : Int) + (1 : Int)) ∧ IntKind.i64.wrap ((↑j : Int) + (1 : Int)) ≤ (200000 : Int) ∧ s.length ≤ (100000 : Nat) ∧ (3 : Nat) = (3 : TypeId)) then k (Ex.exit (0 : Nat)) c81 [some (Row.arr false (Sh.int IntKind.i64) (3 : Nat) (ps ++ [AV.int IntKind.i64 (↑j : Int)] ++ ints (dPts s (s.length - c80.toNat) c80.toNat)) none)] else none else none else none else bif decide (((↑s.length : Int) - IntKind.i64.wrap ((↑j : Int) + (1 : Int))).toNat < ((↑s.length : Int) - (↑j : Int)).toNat) then bif decide ((1 : Int) ≤ IntKind.i64.wrap ((↑j : Int) + (1 : Int)) ∧ (↑ps.length : Int) ≤ IntKind.i64.wrap ((↑j : Int) + (1 : Int)) ∧ IntKind.i64.wrap ((↑j : Int) + (1 : Int)) ≤ (200000 : Int) ∧ s.length ≤ (100000 : Nat) ∧ (3 : TypeId) = (3 : TypeId)) then k (Ex.exit (0 : Nat)) c81 [some (Row.arr false (Sh.int IntKind.i64) (3 : Nat) (ps ++ ints (dPts s (s.length - c80.toNat) c80.toNat)) none)] else none else none else none else bif decide (((↑s.length : Int) - IntKind.i64.wrap ((↑j : Int) + (1 : Int))).toNat < ((↑s.length : Int) - (↑j : Int)).toNat) then bif decide ((1 : Int) ≤ IntKind.i64.wrap ((↑j : Int) + (1 : Int)) ∧ (↑ps.length : Int) ≤ IntKind.i64.wrap ((↑j : Int) + (1 : Int)) ∧ IntKind.i64.wrap ((↑j : Int) + (1 : Int)) ≤ (200000 : Int) ∧ s.length ≤ (100000 : Nat) ∧ (3 : TypeId) = (3 : TypeId)) then k (Ex.exit (0 : Nat)) c81 [some (Row.arr false (Sh.int IntKind.i64) (3 : Nat) (ps ++ ints (dPts s (s.length - c80.toNat) c80.toNat)) none)] else none else none else none else k (Ex.exit (0 : Nat)) [AV.str s, AV.own 900, AV.int IntKind.i64 (↑j : Int)] [some (Row.arr false (Sh.int IntKind.i64) (3 : Nat) ps none)]) (by kernel_rfl) ?_
    conv => zeta
    rw [← hk]
    by_cases hlt : j < s.length
    · have d0 : decide ((j : Int) < (s.length : Int)) = true := decide_eq_true (by omega)
      have i0 : inb (j : Int) s.length = true := inb_true (by omega) (by omega)
      have w0 : IntKind.i64.wrap ((j : Int) - 1) = ((j - 1 : Nat) : Int) := by rw [wrap_small _ (by omega) (by omega)]; omega
      have i1 : inb ((j - 1 : Nat) : Int) s.length = true := inb_true (by omega) (by omega)
      have w1 : IntKind.i64.wrap ((j : Int) + 1) = ((j + 1 : Nat) : Int) := by rw [wrap_small _ (by omega) (by omega)]; omega
      have m1 : decide (((s.length : Int) - ((j + 1 : Nat) : Int)).toNat < ((s.length : Int) - (j : Int)).toNat) = true := decide_eq_true (by omega)
      have hx : ∀ j, ((s.getD j (0 : UInt8)).toNat : Int) = atI s j := fun j => rfl
      have hp1 : (ps ++ [AV.int .i64 (j : Int)]).length = ps.length + 1 := by rw [List.length_append]; rfl
      have r1 : roomB (ps.length + ([AV.int .i64 (j : Int)] : List AV).length) (Tryz.prog.bytesOf 3) = true := roomB_small (by rw [List.length_singleton]; omega) by3
      have c1 : decide (1 ≤ ((j + 1 : Nat) : Int) ∧ (ps.length : Int) ≤ ((j + 1 : Nat) : Int) ∧ ((j + 1 : Nat) : Int) ≤ 200000 ∧ s.length ≤ 100000 ∧ True) = true := decide_eq_true ⟨by omega, by omega, by omega, by omega, trivial⟩
      have c2 : decide (1 ≤ ((j + 1 : Nat) : Int) ∧ ((ps ++ [AV.int .i64 (j : Int)]).length : Int) ≤ ((j + 1 : Nat) : Int) ∧ ((j + 1 : Nat) : Int) ≤ 200000 ∧ s.length ≤ 100000 ∧ True) = true := decide_eq_true ⟨by omega, by rw [hp1]; omega, by omega, by omega, trivial⟩
      have e0 : s.length - j = (s.length - (j + 1)) + 1 := by omega
      have e2 : s.length - (j + 1) + (j + 1) = s.length - (j + 1) + 1 + j := by omega
      have hd : dPts s (s.length - j) j = bif brk s j then j :: dPts s (s.length - (j + 1)) (j + 1) else dPts s (s.length - (j + 1)) (j + 1) := by rw [e0]; rfl
      rw [hd]
      have hb : brk s j = (isB' (atI s j) && !isB' (atI s (j - 1))) := rfl
      rw [hb, e0, ← e2]
      simp only [d0, i0, w0, i1, w1, m1, hx, r1, c1, c2, cond_true, Int.toNat_natCast]
      cases isB' (atI s j) <;> cases isB' (atI s (j - 1)) <;> simp only [Bool.not_true, Bool.not_false, Bool.and_true, Bool.and_false, cond_true, cond_false] <;> try rfl
      rw [List.append_assoc]
      rfl
    · have e0 : s.length - j = 0 := by omega
      rw [decide_eq_false (by omega), e0, Nat.zero_add]
      show _ = k _ _ [some (.arr false (.int .i64) 3 (ps ++ []) none)]
      rw [List.append_nil]
      rfl
  · cases h
def L48d : List AV → List (Option Row) → Tr LOut
  | [.str s, .own 899, .own 901, .int .i64 a, .int .i64 b, .int .i64 k], [some (.arr false (.int .i64) e ps none), some (.arr false .str e9 out none)] =>
    .gd (cnt ps.length k ps.length && (ps.all (isI s.length) && decide (0 ≤ a ∧ a ≤ s.length ∧ s.length ≤ 100000))) (.leaf (.exit 4, [.str s, .own 899, .own 901, .int .i64 a, .int .i64 (dBest a.toNat ((ps.drop k.toNat).map nI) b), .int .i64 ps.length], [some (.arr false (.int .i64) e ps none), some (.arr false .str e9 out none)]))
  | _, _ => .no
def l48d : Ev.Loop := ⟨{ len := 87, slots := [5, 6, 8, 9, 10, 11], rows := [899, 901], homes := [(6, 899, 3), (8, 901, 9)] }, ofL L48d⟩
def μ48d (vs : List AV) (rs : List (Option Row)) : Nat := match vs, rs with
  | [_, _, _, _, _, .int _ i], [some (.arr _ _ _ ps _), _] => ((ps.length : Int) - i).toNat
  | _, _ => 0
theorem loop48d (K : List (Nat × Ev.Loop)) : LoopOK Tryz.prog G48 K d48 l48d := by
  refine loopT g48.natOK rfl (KOK.nil (by kernel_rfl)) μ48d (fun ρ vs rs k r h => ?_)
  unfold L48d at h
  split at h
  · rename_i s a b i e ps e9 out
    obtain ⟨hc, hk⟩ := gd_some h
    simp only [Bool.and_eq_true] at hc
    obtain ⟨hc, hall, hb⟩ := hc
    obtain ⟨h1, h2, h3⟩ := of_decide_eq_true hb
    obtain ⟨-, hs, j, rfl, hj⟩ := cnt_spec hc
    obtain ⟨A, rfl⟩ : ∃ A : Nat, a = A := ⟨a.toNat, by omega⟩
    rw [Int.toNat_natCast, Int.toNat_natCast] at hk
    refine Eq.trans (b := have c80 := (ps.all (isI s.length) && decide ((0 : Int) ≤ (↑A : Int) ∧ (↑A : Int) ≤ (↑s.length : Int) ∧ s.length ≤ (100000 : Nat))); have c81 := [some (Row.arr false (Sh.int IntKind.i64) e ps none), some (Row.arr false Sh.str e9 out none)]; have c82 := (IntKind.i64.wrap ((↑j : Int) + (1 : Int))); have c83 := [AV.str s, AV.own 899, AV.own 901, AV.int IntKind.i64 (↑A : Int), AV.int IntKind.i64 (dBest A (List.map nI (List.drop c82.toNat ps)) (iE (ps.getD j AV.unk))), AV.int IntKind.i64 (↑ps.length : Int)]; have c84 := ((↑ps.length : Int) - IntKind.i64.wrap ((↑j : Int) + (1 : Int))); have c85 := [AV.str s, AV.own 899, AV.own 901, AV.int IntKind.i64 (↑A : Int), AV.int IntKind.i64 (dBest A (List.map nI (List.drop c82.toNat ps)) b), AV.int IntKind.i64 (↑ps.length : Int)]; bif decide ((↑j : Int) < (↑ps.length : Int)) then bif inb (↑j : Int) ps.length then bif decide (j < ps.length) then bif decide ((iE (ps.getD j AV.unk)) > (↑A : Int)) then bif decide (IntKind.i64.wrap ((iE (ps.getD j AV.unk)) - (↑A : Int)) ≤ (78 : Int)) then bif decide (c84.toNat < ((↑ps.length : Int) - (↑j : Int)).toNat) then bif cnt (↑ps.length : Int) c82 ps.length && c80 then k (Ex.exit (4 : Nat)) c83 c81 else none else none else bif decide (b < (0 : Int)) then bif decide (c84.toNat < ((↑ps.length : Int) - (↑j : Int)).toNat) then bif cnt (↑ps.length : Int) c82 ps.length && c80 then k (Ex.exit (4 : Nat)) c83 c81 else none else none else bif decide (c84.toNat < ((↑ps.length : Int) - (↑j : Int)).toNat) then bif cnt (↑ps.length : Int) c82 ps.length && c80 then k (Ex.exit (4 : Nat)) c85 c81 else none else none else bif decide (c84.toNat < ((↑ps.length : Int) - (↑j : Int)).toNat) then bif cnt (↑ps.length : Int) c82 ps.length && c80 then k (Ex.exit (4 : Nat)) c85 c81 else none else none else none else none else k (Ex.exit (4 : Nat)) [AV.str s, AV.own 899, AV.own 901, AV.int IntKind.i64 (↑A : Int), AV.int IntKind.i64 b, AV.int IntKind.i64 (↑j : Int)] c81) (by kernel_rfl) ?_
    conv => zeta
    rw [← hk]
    by_cases hlt : j < ps.length
    · obtain ⟨e1, e2, e3, e4, e5⟩ := cnt_facts hlt hs
      obtain ⟨n1, n2⟩ := isI_at hall hlt
      have w : IntKind.i64.wrap ((nI (ps.getD j .unk) : Int) - A) = (nI (ps.getD j .unk) : Int) - A := wrap_mid _ (by omega) (by omega)
      have d1 : decide ((nI (ps.getD j .unk) : Int) > (A : Int)) = decide (A < nI (ps.getD j .unk)) := by
        by_cases h : A < nI (ps.getD j .unk)
        · rw [decide_eq_true h, decide_eq_true (by omega)]
        · rw [decide_eq_false h, decide_eq_false (by omega)]
      have d2 : decide ((nI (ps.getD j .unk) : Int) - A ≤ 78) = decide (nI (ps.getD j .unk) ≤ A + 78) := by
        by_cases h : nI (ps.getD j .unk) ≤ A + 78
        · rw [decide_eq_true h, decide_eq_true (by omega)]
        · rw [decide_eq_false h, decide_eq_false (by omega)]
      have hl : ((A : Int) ≤ (s.length : Int)) := h2
      rw [drop_getD hlt, List.map_cons]
      have hs1 : dBest A (nI (ps.getD j .unk) :: (ps.drop (j + 1)).map nI) b = bif decide (A < nI (ps.getD j .unk)) && (decide (nI (ps.getD j .unk) ≤ A + 78) || decide (b < 0)) then dBest A ((ps.drop (j + 1)).map nI) (nI (ps.getD j .unk)) else dBest A ((ps.drop (j + 1)).map nI) b := rfl
      have e6 : decide (j < ps.length) = true := decide_eq_true hlt
      have c3 : decide (0 ≤ (A : Int) ∧ (A : Int) ≤ (s.length : Int) ∧ s.length ≤ 100000) = true := decide_eq_true ⟨h1, h2, h3⟩
      rw [hs1]
      simp only [e1, e2, e3, e4, e5, e6, n1, w, d1, d2, hall, c3, Bool.and_true, cond_true, Int.toNat_natCast]
      cases decide (A < nI (ps.getD j .unk)) <;> cases decide (nI (ps.getD j .unk) ≤ A + 78) <;> cases decide (b < 0) <;> rfl
    · obtain rfl : j = ps.length := by omega
      rw [decide_eq_false (by omega), List.drop_length]
      rfl
  · cases h
theorem dFl_fuel (s : List UInt8) (ps : List Nat) : ∀ (f g a : Nat), s.length - a ≤ f → s.length - a ≤ g → dFl f s ps a = dFl g s ps a
  | 0, 0, _, _, _ => rfl
  | 0, g + 1, a, h, _ => by
    rw [dFl_step, decide_eq_false (by omega)]; rfl
  | f + 1, 0, a, _, h => by
    rw [dFl_step, decide_eq_false (by omega)]; rfl
  | f + 1, g + 1, a, hf, hg => by
    rw [dFl_step, dFl_step]
    cases hd : decide ((s.length : Int) - a > 78)
    · rfl
    · have := of_decide_eq_true hd
      cases hn : decide (dBest a ps (-1) < 0)
      · rcases dBest_mem a ps (-1) with h | ⟨p, _, hp, h⟩
        · rw [h] at hn; cases hn
        · rw [h, Int.toNat_natCast, dFl_fuel s ps f g p (by omega) (by omega)]
      · rfl
def L48c : List AV → List (Option Row) → Tr LOut
  | [.str s, .own 899, .own 901, .int .i64 a], [some (.arr false (.int .i64) e ps none), some (.arr false .str e9 out none)] =>
    .gd (ps.all (isI s.length) && decide (0 ≤ a ∧ a ≤ s.length ∧ s.length ≤ 100000 ∧ ps.length ≤ 300000 ∧ out.length ≤ a ∧ e9 = 9)) (.leaf (.exit 2, [.str s, .own 899, .own 901, .int .i64 (dFl s.length s (ps.map nI) a.toNat).2], [some (.arr false (.int .i64) e ps none), some (.arr false .str e9 (out ++ strs (dFl s.length s (ps.map nI) a.toNat).1) none)]))
  | _, _ => .no
def l48c : Ev.Loop := ⟨{ len := 87, slots := [5, 6, 8, 9], rows := [899, 901], homes := [(6, 899, 3), (8, 901, 9)] }, ofL L48c⟩
def μ48c (vs : List AV) (_ : List (Option Row)) : Nat := match vs with
  | [.str s, _, _, .int _ i] => ((s.length : Int) - i).toNat
  | _ => 0
theorem loop48c : LoopOK Tryz.prog G48 [(4, l48), (10, l48c), (13, l48d)] c48 l48c := by
  refine loopT g48.natOK rfl (KOK.one (b := d48) (l := l48d) (by kernel_rfl) (by kernel_rfl) (loop48d _)) μ48c (fun ρ vs rs k r h => ?_)
  unfold L48c at h
  split at h
  · rename_i s a e ps e9 out
    obtain ⟨hc, hk⟩ := gd_some h
    obtain ⟨hall, hc⟩ := (Bool.and_eq_true _ _).mp hc
    obtain ⟨h1, h2, h3, h4, h5, rfl⟩ := of_decide_eq_true hc
    obtain ⟨A, rfl⟩ : ∃ A : Nat, a = A := ⟨a.toNat, by omega⟩
    rw [Int.toNat_natCast] at hk
    refine Eq.trans (b := have c80 := (List.map nI (List.drop (0 : Nat) ps)); have c81 := [AV.str (List.take ((dBest A c80 (-1 : Int)).toNat - A) (List.drop A s))]; bif decide (IntKind.i64.wrap ((↑s.length : Int) - (↑A : Int)) > (78 : Int)) then bif cnt (↑ps.length : Int) (0 : Int) ps.length && (ps.all (isI s.length) && decide ((0 : Int) ≤ (↑A : Int) ∧ (↑A : Int) ≤ (↑s.length : Int) ∧ s.length ≤ (100000 : Nat))) then bif decide (dBest A c80 (-1 : Int) < (0 : Int)) then k (Ex.exit (2 : Nat)) [AV.str s, AV.own 899, AV.own 901, AV.int IntKind.i64 (↑A : Int)] [some (Row.arr false (Sh.int IntKind.i64) e ps none), some (Row.arr false Sh.str (9 : Nat) out none)] else bif slb (↑A : Int) (dBest A c80 (-1 : Int)) s.length then bif roomB (out.length + c81.length) (Tryz.prog.bytesOf 9) then bif decide (((↑s.length : Int) - dBest A c80 (-1 : Int)).toNat < ((↑s.length : Int) - (↑A : Int)).toNat) then bif ps.all (isI s.length) && decide ((0 : Int) ≤ dBest A c80 (-1 : Int) ∧ dBest A c80 (-1 : Int) ≤ (↑s.length : Int) ∧ s.length ≤ (100000 : Nat) ∧ ps.length ≤ (300000 : Nat) ∧ (↑(out ++ c81).length : Int) ≤ dBest A c80 (-1 : Int) ∧ (9 : Nat) = (9 : TypeId)) then k (Ex.exit (2 : Nat)) [AV.str s, AV.own 899, AV.own 901, AV.int IntKind.i64 (↑(dFl s.length s (List.map nI ps) (dBest A c80 (-1 : Int)).toNat).snd : Int)] [some (Row.arr false (Sh.int IntKind.i64) e ps none), some (Row.arr false Sh.str (9 : Nat) (out ++ c81 ++ strs (dFl s.length s (List.map nI ps) (dBest A c80 (-1 : Int)).toNat).fst) none)] else none else none else none else none else none else k (Ex.exit (2 : Nat)) [AV.str s, AV.own 899, AV.own 901, AV.int IntKind.i64 (↑A : Int)] [some (Row.arr false (Sh.int IntKind.i64) e ps none), some (Row.arr false Sh.str (9 : Nat) out none)]) (by kernel_rfl) ?_
    conv => zeta
    rw [← hk]
    have hK : List.map nI (List.drop 0 ps) = ps.map nI := rfl
    have w0 : IntKind.i64.wrap ((s.length : Int) - A) = (s.length : Int) - A := wrap_mid _ (by omega) (by omega)
    rw [hK, w0]
    have hfu : dFl s.length s (ps.map nI) A = dFl (s.length + 1) s (ps.map nI) A := dFl_fuel s _ _ _ A (by omega) (by omega)
    rw [hfu, dFl_step]
    cases h78 : decide ((s.length : Int) - A > 78)
    · show k _ _ _ = k _ _ [some (.arr false (.int .i64) e ps none), some (.arr false .str 9 (out ++ []) none)]
      rw [List.append_nil]
      rfl
    · have h78' := of_decide_eq_true h78
      refine Eq.trans (cond_t rfl) (Eq.trans (cond_t (and_t (cnt_zero (decide_eq_true (by omega))) (and_t hall (decide_eq_true ⟨by omega, h2, h3⟩)))) ?_)
      rw [cond_true]
      cases hn : decide (dBest A (ps.map nI) (-1) < 0)
      · rcases dBest_mem A (ps.map nI) (-1) with h | ⟨p, hpm, hp, h⟩
        · rw [h] at hn; cases hn
        · have hps : p ≤ s.length := by
            obtain ⟨x, hx, rfl⟩ := List.mem_map.1 hpm
            obtain ⟨j, hj, rfl⟩ := List.getElem_of_mem hx
            have := (isI_at hall hj).2
            rwa [getD_eq hj] at this
          rw [h, Int.toNat_natCast, cond_false, cond_false]
          have hl : ∀ x : AV, (out ++ [x]).length = out.length + 1 := fun x => by rw [List.length_append]; rfl
          refine Eq.trans (cond_t (slb_true (by omega) (by omega) (by omega))) (Eq.trans (cond_t (roomB_small (by simp; omega) by9)) (Eq.trans (cond_t (decide_eq_true (by omega))) (Eq.trans (cond_t (and_t hall (decide_eq_true ⟨by omega, by omega, h3, h4, by rw [hl]; omega, rfl⟩))) ?_)))
          rw [List.append_assoc]
          rfl
      · show k _ _ _ = k _ _ [some (.arr false (.int .i64) e ps none), some (.arr false .str 9 (out ++ []) none)]
        rw [List.append_nil]
        rfl
  · cases h
theorem dFl_le (s : List UInt8) (ps : List Nat) : ∀ (f a : Nat), (∀ p ∈ ps, p ≤ s.length) → a ≤ s.length → (dFl f s ps a).1.length + a ≤ (dFl f s ps a).2 ∧ (dFl f s ps a).2 ≤ s.length
  | 0, a, _, h => ⟨by simp [dFl], h⟩
  | f + 1, a, hp, h => by
    rw [dFl_step]
    cases hd : decide ((s.length : Int) - a > 78)
    · exact ⟨by simp, h⟩
    · cases hn : decide (dBest a ps (-1) < 0)
      · rcases dBest_mem a ps (-1) with e | ⟨p, hpm, hp', e⟩
        · rw [e] at hn; cases hn
        · obtain ⟨i1, i2⟩ := dFl_le s ps f p hp (hp p hpm)
          rw [e, Int.toNat_natCast]
          simp only [cond_true, cond_false, List.length_cons]
          exact ⟨by omega, i2⟩
      · exact ⟨by simp, h⟩
theorem doc_lines (n v s : List UInt8) (hs : s = n ++ [58, 32] ++ v) : (dFl s.length s (dPts s (s.length - (n.length + 3)) (n.length + 3)) 0).1 ++ [s.drop (dFl s.length s (dPts s (s.length - (n.length + 3)) (n.length + 3)) 0).2] = flL n v := by
  have hl : s.length = n.length + 2 + v.length := by rw [hs]; simp only [List.length_append]; rfl
  have hp : dPts s (s.length - (n.length + 3)) (n.length + 3) = dPts s (s.length - (n.length + 2)) (n.length + 2) := by
    by_cases hv : v.length = 0
    · rw [show s.length - (n.length + 3) = 0 by omega, show s.length - (n.length + 2) = 0 by omega]
      rfl
    · rw [show s.length - (n.length + 2) = (s.length - (n.length + 3)) + 1 by omega, dPts_step]
      have hb : brk s (n.length + 2) = false := by
        unfold brk
        have : atI s (n.length + 2 - 1) = 32 := by
          unfold atI
          rw [hs, show n.length + 2 - 1 = n.length + 1 by omega, List.append_assoc, List.getD_eq_getElem?_getD, List.getElem?_append_right (by omega), show n.length + 1 - n.length = 1 by omega]
          rfl
        rw [this]
        show (_ && !true) = false
        rw [Bool.not_true, Bool.and_false]
      rw [hb]
      rfl
  rw [hp]
  obtain ⟨h1, h2⟩ := fl_doc s (n.length + 2) (by omega) (by omega) s.length 0 ((n.length + 2 : Nat) : Int) (.inl ⟨rfl, rfl⟩) (Nat.zero_le _)
  rw [List.drop_zero] at h1 h2
  unfold flL
  have e : ((n.length : Int) + 2) = ((n.length + 2 : Nat) : Int) := by omega
  rw [e, ← hs, h1, h2]
theorem dPts_len (s : List UInt8) : ∀ (n i : Nat), (dPts s n i).length ≤ n
  | 0, _ => Nat.le_refl _
  | n + 1, i => by
    rw [dPts_step]
    have := dPts_len s n (i + 1)
    cases brk s i
    · exact Nat.le_succ_of_le this
    · exact Nat.succ_le_succ this
def F48 : List AV → Tr AV
  | [.str n, .str v] => .gd (decide (n.length + v.length ≤ 50000)) (.leaf (.slv .str (strs (flL n v))))
  | _ => .no
theorem ok48 : SumOK Tryz.prog 48 (ofT F48) ∧ SNat (ofT F48) := by
  refine fnT (K := [(4, l48), (10, l48c), (13, l48d)]) g48 Tryz.func48 (bs := [b48, c48, d48]) (by kernel_rfl) (fun b hb => ?_) fun ρ avs k r h => ?_
  · simp at hb
    rcases hb with rfl | rfl | rfl
    · exact ⟨l48, by kernel_rfl, loop48 _⟩
    · exact ⟨l48c, by kernel_rfl, loop48c⟩
    · exact ⟨l48d, by kernel_rfl, loop48d _⟩
  unfold F48 at h
  split at h
  · rename_i n v
    obtain ⟨hc, hk⟩ := gd_some h
    have hc := of_decide_eq_true hc
    refine Eq.trans (b := have c81 := (n ++ ([58, 32] : List UInt8) ++ v); have c82 := ((↑n.length : Int) + (3 : Int)); have c80 := (dFl c81.length c81 (List.map nI ([] ++ ints (dPts c81 (c81.length - (IntKind.i64.wrap c82).toNat) (IntKind.i64.wrap c82).toNat))) (0 : Nat)); bif lenB (n.length + ([58, 32] : List UInt8).length) then bif lenB ((n ++ ([58, 32] : List UInt8)).length + v.length) then bif decide ((1 : Int) ≤ IntKind.i64.wrap c82 ∧ (↑([] : List AV).length : Int) ≤ IntKind.i64.wrap c82 ∧ IntKind.i64.wrap c82 ≤ (200000 : Int) ∧ c81.length ≤ (100000 : Nat) ∧ ((6 : Nat), (900 : Nat), (3 : TypeId)).snd.snd = (3 : TypeId)) then bif ([] ++ ints (dPts c81 (c81.length - (IntKind.i64.wrap c82).toNat) (IntKind.i64.wrap c82).toNat)).all (isI c81.length) && decide ((0 : Int) ≤ (0 : Int) ∧ (0 : Int) ≤ (↑c81.length : Int) ∧ c81.length ≤ (100000 : Nat) ∧ ([] ++ ints (dPts c81 (c81.length - (IntKind.i64.wrap c82).toNat) (IntKind.i64.wrap c82).toNat)).length ≤ (300000 : Nat) ∧ (↑([] : List AV).length : Int) ≤ (0 : Int) ∧ ((8 : Nat), (901 : Nat), (9 : TypeId)).snd.snd = (9 : TypeId)) then bif slb (↑c80.snd : Int) (↑c81.length : Int) c81.length then bif roomB (([] ++ strs c80.fst).length + [AV.str (List.take ((↑c81.length : Int).toNat - (↑c80.snd : Int).toNat) (List.drop (↑c80.snd : Int).toNat c81))].length) (Tryz.prog.bytesOf 9) then k (AV.slv Sh.str ([] ++ strs c80.fst ++ [AV.str (List.take ((↑c81.length : Int).toNat - (↑c80.snd : Int).toNat) (List.drop (↑c80.snd : Int).toNat c81))])) else none else none else none else none else none else none) (by kernel_rfl) ?_
    conv => zeta
    rw [← hk]
    obtain ⟨S, hS⟩ : ∃ S, S = n ++ [58, 32] ++ v := ⟨_, rfl⟩
    have hl : S.length = n.length + 2 + v.length := by rw [hS]; simp only [List.length_append]; rfl
    have w : IntKind.i64.wrap ((n.length : Int) + 3) = ((n.length + 3 : Nat) : Int) := by rw [wrap_small _ (by omega) (by omega)]; omega
    have l2 : ([58, 32] : List UInt8).length = 2 := rfl
    have hD := doc_lines n v S hS
    rw [← hS, w, Int.toNat_natCast, List.nil_append, ints_nI]
    have hm : ∀ p ∈ dPts S (S.length - (n.length + 3)) (n.length + 3), p ≤ S.length := fun p hp => by have := dPts_mem S _ _ p hp; omega
    have hle := dFl_le S (dPts S (S.length - (n.length + 3)) (n.length + 3)) S.length 0 hm (Nat.zero_le _)
    have hil : (ints (dPts S (S.length - (n.length + 3)) (n.length + 3))).length ≤ S.length := by
      unfold ints
      rw [List.length_map]
      exact Nat.le_trans (dPts_len S _ _) (Nat.sub_le _ _)
    generalize hq : dFl S.length S (dPts S (S.length - (n.length + 3)) (n.length + 3)) 0 = q at hD hle ⊢
    have hsl : (strs q.1).length = q.1.length := List.length_map _
    have e1 : List.take ((S.length : Int).toNat - ((q.2 : Nat) : Int).toNat) (List.drop ((q.2 : Nat) : Int).toNat S) = S.drop q.2 := by
      rw [Int.toNat_natCast, Int.toNat_natCast]
      exact List.take_of_length_le (by rw [List.length_drop]; exact Nat.le_refl _)
    rw [e1]
    refine Eq.trans (cond_t (decide_eq_true (by rw [l2]; omega))) (Eq.trans (cond_t (decide_eq_true (by rw [List.length_append, l2]; omega))) (Eq.trans (cond_t (decide_eq_true ⟨by omega, by simp; omega, by omega, by omega, rfl⟩)) (Eq.trans (cond_t (and_t (ints_all hm) (decide_eq_true ⟨by omega, by omega, by omega, by omega, Int.le_refl _, rfl⟩))) (Eq.trans (cond_t (slb_true (by omega) (by omega) (by omega))) (Eq.trans (cond_t (roomB_small (by rw [List.nil_append, hsl, List.length_singleton]; omega) by9)) ?_)))))
    rw [← hD]
    unfold strs
    rw [List.nil_append, List.map_append]
    rfl
  · cases h
noncomputable def G47 : Env := { pure := [(81, ofT F81), (48, ofT F48), (27, evF Tryz.prog G0 [] Tryz.f27)] }
theorem g47 : GOK Tryz.prog G47 := GOK.also (GOK.also (GOK.also g0 (inl g0 Tryz.func27 (by kernel_rfl))) ok48) ok81
noncomputable def b47 : Code := ((Tryz.f47.body.map loopsOf).getD []).headD .skip
def L47 : List AV → List (Option Row) → Tr LOut
  | [.ptr 0 0, .slv .str es, .int .i64 i], [some (.box false [.int .i64 0, .int .i64 0])] =>
    .gd (cnt es.length i es.length && es.all isS) (sT (longE es) es.length (fun q => .leaf (.ret, [.ptr 0 0, .slv .str es, .int .i64 (q : Nat)], [some (.box false [.int .i64 1, .int .i64 (q : Nat)])])) (.leaf (.exit 0, [.ptr 0 0, .slv .str es, .int .i64 es.length], [some (.box false [.int .i64 0, .int .i64 0])])) i.toNat)
  | _, _ => .no
def l47 : Ev.Loop := ⟨{ len := 33, slots := [4, 5, 6], rows := [0] }, ofL L47⟩
def μ47 (vs : List AV) (_ : List (Option Row)) : Nat := match vs with
  | [_, .slv _ es, .int _ i] => ((es.length : Int) - i).toNat
  | _ => 0
theorem loop47 : LoopOK Tryz.prog G47 [(5, l47)] b47 l47 := by
  refine loopT g47.natOK rfl (KOK.nil (by kernel_rfl)) μ47 (fun ρ vs rs k r h => ?_)
  unfold L47 at h
  split at h
  · rename_i es i
    obtain ⟨hc, hk⟩ := gd_some h
    simp only [Bool.and_eq_true] at hc
    obtain ⟨hc, hall⟩ := hc
    obtain ⟨-, hs, j, rfl, hj⟩ := cnt_spec hc
    rw [Int.toNat_natCast] at hk
    refine Eq.trans (b := bif decide ((↑j : Int) < (↑es.length : Int)) then bif inb (↑j : Int) es.length then bif decide ((↑(fN (es.getD j AV.unk)).length : Int) > (998 : Int)) then k Ex.ret [AV.ptr 0 0, AV.slv Sh.str es, AV.int IntKind.i64 (↑j : Int)] [some (Row.box false [AV.int IntKind.i64 1, AV.int IntKind.i64 (↑j : Int)])] else bif decide (((↑es.length : Int) - IntKind.i64.wrap ((↑j : Int) + (1 : Int))).toNat < ((↑es.length : Int) - (↑j : Int)).toNat) then bif cnt (↑es.length : Int) (IntKind.i64.wrap ((↑j : Int) + (1 : Int))) es.length && es.all isS then bif (findN (longE es) es.length (IntKind.i64.wrap ((↑j : Int) + (1 : Int))).toNat).isSome then k Ex.ret [AV.ptr 0 0, AV.slv Sh.str es, AV.int IntKind.i64 (↑((findN (longE es) es.length (IntKind.i64.wrap ((↑j : Int) + (1 : Int))).toNat).getD (0 : Nat)) : Int)] [some (Row.box false [AV.int IntKind.i64 1, AV.int IntKind.i64 (↑((findN (longE es) es.length (IntKind.i64.wrap ((↑j : Int) + (1 : Int))).toNat).getD (0 : Nat)) : Int)])] else k (Ex.exit (0 : Nat)) [AV.ptr 0 0, AV.slv Sh.str es, AV.int IntKind.i64 (↑es.length : Int)] [some (Row.box false [AV.int IntKind.i64 0, AV.int IntKind.i64 0])] else none else none else none else k (Ex.exit (0 : Nat)) [AV.ptr 0 0, AV.slv Sh.str es, AV.int IntKind.i64 (↑j : Int)] [some (Row.box false [AV.int IntKind.i64 0, AV.int IntKind.i64 0])]) (by kernel_rfl) ?_
    rw [← hk]
    by_cases hlt : j < es.length
    · obtain ⟨e1, e2, e3, e4, e5⟩ := cnt_facts hlt hs
      rw [sT_step _ _ _ _ _ hlt]
      have hw : longE es j = decide (((sE (es.getD j .unk)).length : Int) > 998) := rfl
      have e6 : decide (j < es.length) = true := decide_eq_true hlt
      rw [hw]
      simp only [e1, e2, e3, e4, e5, hall, Bool.and_true, cond_true, Int.toNat_natCast]
      rfl
    · obtain rfl : j = es.length := by omega
      rw [decide_eq_false (by omega), sT_end]
      rfl
  · cases h
def ffC (n v : List UInt8) : Int := bif fcD n v != 0 then fcD n v else bif (findN (longL (flL n v)) (flL n v).length 0).isSome then 1 else 0
def ffI (n v : List UInt8) : Int := bif fcD n v != 0 then -1 else bif (findN (longL (flL n v)) (flL n v).length 0).isSome then (((findN (longL (flL n v)) (flL n v).length 0).getD 0 : Nat) : Int) else 0
def F47 : List AV → Tr AV
  | [.str n, .str v] => .gd (decide (n.length + v.length ≤ 50000)) (.leaf (.agg [.int .i64 (ffC n v), .int .i64 (ffI n v)]))
  | _ => .no
theorem ok47 : SumOK Tryz.prog 47 (ofT F47) ∧ SNat (ofT F47) := by
  refine fn1 (K := [(5, l47)]) (b := b47) (l := l47) g47 Tryz.func47 (by kernel_rfl) (by kernel_rfl) loop47 fun ρ avs k r h => ?_
  unfold F47 at h
  split at h
  · rename_i n v
    obtain ⟨hc, hk⟩ := gd_some h
    have hc' := of_decide_eq_true hc
    refine Eq.trans (b := bif small n.length && small v.length then bif fcD n v != (0 : Int) then bif small n.length && small v.length then k (AV.agg [AV.int IntKind.i64 (fcD n v), AV.int IntKind.i64 (-1 : Int)]) else none else bif decide (n.length + v.length ≤ (50000 : Nat)) then bif cnt (↑(strs (flL n v)).length : Int) (0 : Int) (strs (flL n v)).length && (strs (flL n v)).all isS then bif (findN (longE (strs (flL n v))) (strs (flL n v)).length (0 : Nat)).isSome then k (AV.agg [AV.int IntKind.i64 1, AV.int IntKind.i64 (↑((findN (longE (strs (flL n v))) (strs (flL n v)).length (0 : Nat)).getD (0 : Nat)) : Int)]) else k (AV.agg [AV.int IntKind.i64 0, AV.int IntKind.i64 0]) else none else none else none) (by kernel_rfl) ?_
    rw [← hk, hc]
    have hss : (small n.length && small v.length) = true := and_t (decide_eq_true (by omega)) (decide_eq_true (by omega))
    have hsl : (strs (flL n v)).length = (flL n v).length := List.length_map _
    have hfl := flL_len n v
    unfold ffC ffI
    rw [hss, hsl, longE_strs, strs_all]
    cases fcD n v != 0
    · refine Eq.trans (cond_t rfl) (Eq.trans (cond_f rfl) (Eq.trans (cond_t rfl) (Eq.trans (cond_t (and_t (cnt_zero (decide_eq_true (by omega))) rfl)) ?_)))
      cases (findN (longL (flL n v)) (flL n v).length 0).isSome <;> rfl
    · rfl
  · cases h
noncomputable def G25 : Env := { pure := [(47, ofT F47), (27, evF Tryz.prog G0 [] Tryz.f27)] }
theorem g25 : GOK Tryz.prog G25 := GOK.also (GOK.also g0 (inl g0 Tryz.func27 (by kernel_rfl))) ok47
noncomputable def b25 : Code := ((Tryz.f25.body.map loopsOf).getD []).headD .skip
def okV (e : AV) : Bool := decide ((fN e).length + (fV e).length ≤ 50000)
def badV (es : List AV) (i : Nat) : Bool := ffC (fN (es.getD i .unk)) (fV (es.getD i .unk)) != 0
def L25 : List AV → List (Option Row) → Tr LOut
  | [.slv (.agg [.str, .str]) es, .ptr 0 0, .int .i64 i], [some (.box false [.int .i64 0, .int .i64 0])] =>
    .gd (cnt es.length i es.length && es.all okV) (sT (badV es) es.length (fun q => .leaf (.ret, [.slv (.agg [.str, .str]) es, .ptr 0 0, .int .i64 (q : Nat)], [some (.box false [.int .i64 (ffC (fN (es.getD q .unk)) (fV (es.getD q .unk))), .int .i64 (q : Nat)])])) (.leaf (.exit 0, [.slv (.agg [.str, .str]) es, .ptr 0 0, .int .i64 es.length], [some (.box false [.int .i64 0, .int .i64 0])])) i.toNat)
  | _, _ => .no
def l25 : Ev.Loop := ⟨{ len := 34, slots := [0, 2, 3], rows := [0] }, ofL L25⟩
def μ25 (vs : List AV) (_ : List (Option Row)) : Nat := match vs with
  | [.slv _ es, _, .int _ i] => ((es.length : Int) - i).toNat
  | _ => 0
theorem loop25 : LoopOK Tryz.prog G25 [(4, l25)] b25 l25 := by
  refine loopT g25.natOK rfl (KOK.nil (by kernel_rfl)) μ25 (fun ρ vs rs k r h => ?_)
  unfold L25 at h
  split at h
  · rename_i es i
    obtain ⟨hc, hk⟩ := gd_some h
    simp only [Bool.and_eq_true] at hc
    obtain ⟨hc, hall⟩ := hc
    obtain ⟨-, hs, j, rfl, hj⟩ := cnt_spec hc
    rw [Int.toNat_natCast] at hk
    refine Eq.trans (b := have c80 := (findN (badV es) es.length (IntKind.i64.wrap ((↑j : Int) + (1 : Int))).toNat); bif decide ((↑j : Int) < (↑es.length : Int)) then bif inb (↑j : Int) es.length then bif inb (↑j : Int) es.length then bif decide ((fN (es.getD j AV.unk)).length + (fV (es.getD j AV.unk)).length ≤ (50000 : Nat)) then bif ffC (fN (es.getD j AV.unk)) (fV (es.getD j AV.unk)) != (0 : Int) then k Ex.ret [AV.slv (Sh.agg [Sh.str, Sh.str]) es, AV.ptr 0 0, AV.int IntKind.i64 (↑j : Int)] [some (Row.box false [AV.int IntKind.i64 (ffC (fN (es.getD j AV.unk)) (fV (es.getD j AV.unk))), AV.int IntKind.i64 (↑j : Int)])] else bif decide (((↑es.length : Int) - IntKind.i64.wrap ((↑j : Int) + (1 : Int))).toNat < ((↑es.length : Int) - (↑j : Int)).toNat) then bif cnt (↑es.length : Int) (IntKind.i64.wrap ((↑j : Int) + (1 : Int))) es.length && es.all okV then bif c80.isSome then k Ex.ret [AV.slv (Sh.agg [Sh.str, Sh.str]) es, AV.ptr 0 0, AV.int IntKind.i64 (↑(c80.getD (0 : Nat)) : Int)] [some (Row.box false [AV.int IntKind.i64 (ffC (fN (es.getD (c80.getD (0 : Nat)) AV.unk)) (fV (es.getD (c80.getD (0 : Nat)) AV.unk))), AV.int IntKind.i64 (↑(c80.getD (0 : Nat)) : Int)])] else k (Ex.exit (0 : Nat)) [AV.slv (Sh.agg [Sh.str, Sh.str]) es, AV.ptr 0 0, AV.int IntKind.i64 (↑es.length : Int)] [some (Row.box false [AV.int IntKind.i64 0, AV.int IntKind.i64 0])] else none else none else none else none else none else k (Ex.exit (0 : Nat)) [AV.slv (Sh.agg [Sh.str, Sh.str]) es, AV.ptr 0 0, AV.int IntKind.i64 (↑j : Int)] [some (Row.box false [AV.int IntKind.i64 0, AV.int IntKind.i64 0])]) (by kernel_rfl) ?_
    conv => zeta
    rw [← hk]
    by_cases hlt : j < es.length
    · obtain ⟨e1, e2, e3, e4, e5⟩ := cnt_facts hlt hs
      rw [sT_step _ _ _ _ _ hlt]
      have hok : decide ((fN (es.getD j .unk)).length + (fV (es.getD j .unk)).length ≤ 50000) = true := List.all_eq_true.1 hall _ (by rw [getD_eq hlt]; exact List.getElem_mem hlt)
      have hw : badV es j = (ffC (fN (es.getD j .unk)) (fV (es.getD j .unk)) != 0) := rfl
      rw [hw]
      simp only [e1, e2, e3, e4, e5, hok, hall, Bool.and_true, cond_true, Int.toNat_natCast]
      rfl
    · obtain rfl : j = es.length := by omega
      rw [decide_eq_false (by omega), sT_end]
      rfl
  · cases h
def fsC (es : List AV) : Int := bif decide ((es.length : Int) > 60) then 2 else bif (findN (badV es) es.length 0).isSome then ffC (fN (es.getD ((findN (badV es) es.length 0).getD 0) .unk)) (fV (es.getD ((findN (badV es) es.length 0).getD 0) .unk)) else 0
def fsI (es : List AV) : Int := bif decide ((es.length : Int) > 60) then -1 else bif (findN (badV es) es.length 0).isSome then ((findN (badV es) es.length 0).getD 0 : Nat) else 0
def F25 : List AV → Tr AV
  | [.slv (.agg [.str, .str]) es] => .gd (small es.length && es.all okV) (.leaf (.agg [.int .i64 (fsC es), .int .i64 (fsI es)]))
  | _ => .no
theorem ok25 : SumOK Tryz.prog 25 (ofT F25) ∧ SNat (ofT F25) := by
  refine fn1 (K := [(4, l25)]) (b := b25) (l := l25) g25 Tryz.func25 (by kernel_rfl) (by kernel_rfl) loop25 fun ρ avs k r h => ?_
  unfold F25 at h
  split at h
  · rename_i es
    obtain ⟨hc, hk⟩ := gd_some h
    obtain ⟨hs, hall⟩ := (Bool.and_eq_true _ _).mp hc
    refine Eq.trans (b := bif decide ((↑es.length : Int) > (60 : Int)) then k (AV.agg [AV.int IntKind.i64 2, AV.int IntKind.i64 (-1 : Int)]) else bif cnt (↑es.length : Int) (0 : Int) es.length && es.all okV then bif (findN (badV es) es.length (0 : Nat)).isSome then k (AV.agg [AV.int IntKind.i64 (ffC (fN (es.getD ((findN (badV es) es.length (0 : Nat)).getD (0 : Nat)) AV.unk)) (fV (es.getD ((findN (badV es) es.length (0 : Nat)).getD (0 : Nat)) AV.unk))), AV.int IntKind.i64 (↑((findN (badV es) es.length (0 : Nat)).getD (0 : Nat)) : Int)]) else k (AV.agg [AV.int IntKind.i64 0, AV.int IntKind.i64 0]) else none) (by kernel_rfl) ?_
    rw [← hk]
    unfold fsC fsI
    cases decide ((es.length : Int) > 60)
    · refine Eq.trans (cond_f rfl) (Eq.trans (cond_t (and_t (cnt_zero hs) hall)) ?_)
      cases (findN (badV es) es.length 0).isSome <;> rfl
    · rfl
  · cases h
noncomputable def G28 : Env := { pure := [(49, ofT F49), (27, evF Tryz.prog G0 [] Tryz.f27)] }
theorem g28 : GOK Tryz.prog G28 := GOK.also (GOK.also g0 (inl g0 Tryz.func27 (by kernel_rfl))) ok49
noncomputable def b28 : Code := ((Tryz.f28.body.map loopsOf).getD []).headD .skip
def L28 : List AV → List (Option Row) → Tr LOut
  | [.slv (.int .u8) bs, .ptr 0 0, .int .i64 b, .int .i64 i], [some (.box false [.int .i64 0, .int .i64 0])] =>
    .gd (decide (0 ≤ b ∧ b ≤ i ∧ i - b ≤ 998 ∧ i ≤ bs.length ∧ bs.length ≤ 1000000)) (.br ((bd bs (i - b) i.toNat).1 == 0)
      (.leaf (.exit 0, [.slv (.int .u8) bs, .ptr 0 0, .int .i64 ((bd bs (i - b) i.toNat).2.2 - (bd bs (i - b) i.toNat).2.1), .int .i64 (bd bs (i - b) i.toNat).2.2], [some (.box false [.int .i64 0, .int .i64 0])]))
      (.br ((bd bs (i - b) i.toNat).1 == 11)
      (.leaf (.ret, [.slv (.int .u8) bs, .ptr 0 0, .int .i64 ((bd bs (i - b) i.toNat).2.2 - (bd bs (i - b) i.toNat).2.1), .int .i64 (bd bs (i - b) i.toNat).2.2], [some (.box false [.int .i64 11, .int .i64 (-5)])]))
      (.leaf (.ret, [.slv (.int .u8) bs, .ptr 0 0, .int .i64 ((bd bs (i - b) i.toNat).2.2 - (bd bs (i - b) i.toNat).2.1 + 1), .int .i64 (bd bs (i - b) i.toNat).2.2], [some (.box false [.int .i64 1, .int .i64 (-6)])]))))
  | _, _ => .no
def l28 : Ev.Loop := ⟨{ len := 37, slots := [0, 2, 3, 4], rows := [0] }, ofL L28⟩
def μ28 (vs : List AV) (_ : List (Option Row)) : Nat := match vs with
  | [.slv _ es, _, _, .int _ i] => ((es.length : Int) - i).toNat
  | _ => 0
theorem loop28 : LoopOK Tryz.prog G28 [(3, l28)] b28 l28 := by
  refine loopT g28.natOK rfl (KOK.nil (by kernel_rfl)) μ28 (fun ρ vs rs k r h => ?_)
  unfold L28 at h
  split at h
  · rename_i bs b i
    obtain ⟨hc, hk⟩ := gd_some h
    obtain ⟨h0, h1, h2, h3, h4⟩ := of_decide_eq_true hc
    obtain ⟨j, rfl⟩ : ∃ j : Nat, i = j := ⟨i.toNat, by omega⟩
    rw [Int.toNat_natCast] at hk
    refine Eq.trans (b := have c81 := (bd bs (IntKind.i64.wrap ((↑j : Int) + (1 : Int)) - b) (IntKind.i64.wrap ((↑j : Int) + (1 : Int))).toNat); have c82 := [AV.slv (Sh.int IntKind.u8) bs, AV.ptr 0 0, AV.int IntKind.i64 b, AV.int IntKind.i64 (↑j : Int)]; have c83 := (IntKind.i64.wrap ((↑j : Int) + (1 : Int)) + (1 : Int)); have c80 := (bd bs (IntKind.i64.wrap c83 - IntKind.i64.wrap c83) (IntKind.i64.wrap c83).toNat); have c84 := [some (Row.box false [AV.int IntKind.i64 11, AV.int IntKind.i64 (-5 : Int)])]; have c85 := [some (Row.box false [AV.int IntKind.i64 1, AV.int IntKind.i64 (-6 : Int)])]; have c86 := [some (Row.box false [AV.int IntKind.i64 0, AV.int IntKind.i64 0])]; have c87 := [AV.slv (Sh.int IntKind.u8) bs, AV.ptr 0 0, AV.int IntKind.i64 ((↑c80.snd.snd : Int) - c80.snd.fst), AV.int IntKind.i64 (↑c80.snd.snd : Int)]; have c88 := [AV.slv (Sh.int IntKind.u8) bs, AV.ptr 0 0, AV.int IntKind.i64 ((↑c81.snd.snd : Int) - c81.snd.fst), AV.int IntKind.i64 (↑c81.snd.snd : Int)]; bif decide ((↑j : Int) < (↑bs.length : Int)) then bif small bs.length && decide ((0 : Int) ≤ (↑j : Int) ∧ (↑j : Int) ≤ (↑bs.length : Int) ∧ bs.length ≤ (1000000000000 : Nat)) then bif crAt bs j then bif decide (((↑bs.length : Int) - IntKind.i64.wrap c83).toNat < ((↑bs.length : Int) - (↑j : Int)).toNat) then bif decide ((0 : Int) ≤ IntKind.i64.wrap c83 ∧ IntKind.i64.wrap c83 ≤ IntKind.i64.wrap c83 ∧ IntKind.i64.wrap c83 - IntKind.i64.wrap c83 ≤ (998 : Int) ∧ IntKind.i64.wrap c83 ≤ (↑bs.length : Int) ∧ bs.length ≤ (1000000 : Nat)) then bif c80.fst == (0 : Int) then k (Ex.exit (0 : Nat)) c87 c86 else bif c80.fst == (11 : Int) then k Ex.ret c87 c84 else k Ex.ret [AV.slv (Sh.int IntKind.u8) bs, AV.ptr 0 0, AV.int IntKind.i64 ((↑c80.snd.snd : Int) - c80.snd.fst + (1 : Int)), AV.int IntKind.i64 (↑c80.snd.snd : Int)] c85 else none else none else bif inb (↑j : Int) bs.length then bif (iE (bs.getD j AV.unk)) == (13 : Int) then k Ex.ret c82 c84 else bif inb (↑j : Int) bs.length then bif (iE (bs.getD j AV.unk)) == (10 : Int) then k Ex.ret c82 c84 else bif decide (IntKind.i64.wrap ((↑j : Int) - b) ≥ (998 : Int)) then k Ex.ret c82 c85 else bif decide (((↑bs.length : Int) - IntKind.i64.wrap ((↑j : Int) + (1 : Int))).toNat < ((↑bs.length : Int) - (↑j : Int)).toNat) then bif decide ((0 : Int) ≤ b ∧ b ≤ IntKind.i64.wrap ((↑j : Int) + (1 : Int)) ∧ IntKind.i64.wrap ((↑j : Int) + (1 : Int)) - b ≤ (998 : Int) ∧ IntKind.i64.wrap ((↑j : Int) + (1 : Int)) ≤ (↑bs.length : Int) ∧ bs.length ≤ (1000000 : Nat)) then bif c81.fst == (0 : Int) then k (Ex.exit (0 : Nat)) c88 c86 else bif c81.fst == (11 : Int) then k Ex.ret c88 c84 else k Ex.ret [AV.slv (Sh.int IntKind.u8) bs, AV.ptr 0 0, AV.int IntKind.i64 ((↑c81.snd.snd : Int) - c81.snd.fst + (1 : Int)), AV.int IntKind.i64 (↑c81.snd.snd : Int)] c85 else none else none else none else none else none else k (Ex.exit (0 : Nat)) c82 c86) (by kernel_rfl) ?_
    conv => zeta
    rw [← hk]
    by_cases hlt : j < bs.length
    · have w1 : IntKind.i64.wrap ((j : Int) + 1) = ((j + 1 : Nat) : Int) := by rw [wrap_small _ (by omega) (by omega)]; omega
      have w2 : IntKind.i64.wrap (((j + 1 : Nat) : Int) + 1) = ((j + 2 : Nat) : Int) := by rw [wrap_small _ (by omega) (by omega)]; omega
      have wb : IntKind.i64.wrap ((j : Int) - b) = (j : Int) - b := wrap_small _ (by omega) (by omega)
      have i0 : inb (j : Int) bs.length = true := inb_true (by omega) (by omega)
      have n1 : ((j + 1 : Nat) : Int) - b = (j : Int) - b + 1 := by omega
      have g0 : (small bs.length && decide (0 ≤ (j : Int) ∧ (j : Int) ≤ (bs.length : Int) ∧ bs.length ≤ 1000000000000)) = true := and_t (decide_eq_true (by omega)) (decide_eq_true ⟨by omega, by omega, by omega⟩)
      have hcr : (iE (bs.getD j .unk) == 13 && (decide (j + 1 < bs.length) && iE (bs.getD (j + 1) .unk) == 10)) = crAt bs j := by
        unfold crAt
        cases iE (bs.getD j .unk) == 13 <;> cases decide (j + 1 < bs.length) <;> rfl
      have jb : (j : Int) - ((j : Int) - b) = b := by omega
      have jb1 : (j : Int) - ((j : Int) - b + 1) + 1 = b := by omega
      have d998 : decide ((j : Int) - b + 1 > 998) = decide ((j : Int) - b ≥ 998) := by
        by_cases h : (j : Int) - b ≥ 998
        · rw [decide_eq_true h, decide_eq_true (by omega)]
        · rw [decide_eq_false h, decide_eq_false (by omega)]
      rw [bd_lt hlt, hcr, d998, w1, w2, wb]
      refine Eq.trans (cond_t (decide_eq_true (by omega))) (Eq.trans (cond_t g0) ?_)
      cases hB : crAt bs j
      · refine Eq.trans (cond_f rfl) (Eq.trans (cond_t i0) ?_)
        rw [cond_false, n1]
        cases iE (bs.getD j .unk) == 13
        · refine Eq.trans (cond_f rfl) (Eq.trans (cond_t i0) ?_)
          cases iE (bs.getD j .unk) == 10
          · refine Eq.trans (cond_f rfl) ?_
            cases h9 : decide ((j : Int) - b ≥ 998)
            · have h9 := of_decide_eq_false h9
              refine Eq.trans (cond_f rfl) (Eq.trans (cond_t (decide_eq_true (by omega))) (Eq.trans (cond_t (decide_eq_true ⟨by omega, by omega, by omega, by omega, by omega⟩)) ?_))
              rfl
            · exact congrArg (fun x => k _ [_, _, .int .i64 x, _] _) jb1.symm
          · exact congrArg (fun x => k _ [_, _, .int .i64 x, _] _) jb.symm
        · exact congrArg (fun x => k _ [_, _, .int .i64 x, _] _) jb.symm
      · have hp : j + 1 < bs.length := by
          unfold crAt at hB
          exact of_decide_eq_true ((Bool.and_eq_true _ _).mp hB).1
        rw [Int.sub_self]
        refine Eq.trans (cond_t rfl) (Eq.trans (cond_t (decide_eq_true (by omega))) (Eq.trans (cond_t (decide_eq_true ⟨by omega, by omega, by omega, by omega, by omega⟩)) ?_))
        rfl
    · obtain rfl : j = bs.length := by omega
      have jb : ((bs.length : Nat) : Int) - (((bs.length : Nat) : Int) - b) = b := by omega
      rw [decide_eq_false (by omega), bd_end]
      exact congrArg (fun x => k _ [_, _, .int .i64 x, _] _) jb.symm
  · cases h
theorem bdL_code (es : List AV) : ∀ (f : Nat) (n : Int) (i : Nat), (bdL es f n i).1 = 0 ∨ (bdL es f n i).1 = 11 ∨ (bdL es f n i).1 = 1
  | 0, _, _ => .inl rfl
  | f + 1, n, i => by
    rw [bdL_step]
    cases decide (i < es.length)
    · exact .inl rfl
    · rw [cond_true]
      cases iE (es.getD i .unk) == 13 && (decide (i + 1 < es.length) && iE (es.getD (i + 1) .unk) == 10)
      · rw [cond_false]
        cases iE (es.getD i .unk) == 13 || iE (es.getD i .unk) == 10
        · rw [cond_false]
          cases decide (n + 1 > 998)
          · exact bdL_code es f _ _
          · exact .inr (.inr rfl)
        · exact .inr (.inl rfl)
      · exact bdL_code es f _ _
def F28 : List AV → Tr AV
  | [.slv (.int .u8) bs] => .gd (decide (bs.length ≤ 1000000)) (.leaf (.agg [.int .i64 (mbC bs), .int .i64 (mbI bs)]))
  | _ => .no
theorem ok28 : SumOK Tryz.prog 28 (ofT F28) ∧ SNat (ofT F28) := by
  refine fn1 (K := [(3, l28)]) (b := b28) (l := l28) g28 Tryz.func28 (by kernel_rfl) (by kernel_rfl) loop28 fun ρ avs k r h => ?_
  unfold F28 at h
  split at h
  · rename_i bs
    obtain ⟨hc, hk⟩ := gd_some h
    have hb := of_decide_eq_true hc
    refine Eq.trans (b := bif decide ((0 : Int) ≤ (0 : Int) ∧ (0 : Int) ≤ (0 : Int) ∧ (0 : Int) - (0 : Int) ≤ (998 : Int) ∧ (0 : Int) ≤ (↑bs.length : Int) ∧ bs.length ≤ (1000000 : Nat)) then bif (bd bs ((0 : Int) - (0 : Int)) (0 : Nat)).fst == (0 : Int) then k (AV.agg [AV.int IntKind.i64 0, AV.int IntKind.i64 0]) else bif (bd bs ((0 : Int) - (0 : Int)) (0 : Nat)).fst == (11 : Int) then k (AV.agg [AV.int IntKind.i64 11, AV.int IntKind.i64 (-5 : Int)]) else k (AV.agg [AV.int IntKind.i64 1, AV.int IntKind.i64 (-6 : Int)]) else none) (by kernel_rfl) ?_
    rw [← hk]
    refine Eq.trans (cond_t (decide_eq_true ⟨by omega, by omega, by omega, by omega, by omega⟩)) ?_
    show (bif (bd bs 0 0).1 == 0 then _ else bif (bd bs 0 0).1 == 11 then _ else _) = _
    unfold mbC mbI
    have hcd : (bd bs 0 0).1 = 0 ∨ (bd bs 0 0).1 = 11 ∨ (bd bs 0 0).1 = 1 := bdL_code bs _ _ _
    rcases hcd with h | h | h <;> rw [h] <;> rfl
  · cases h
end Go.Proofs.YtpmlhkoianekfaaGreatDoor


namespace Go.Proofs.YtpmlhkoianekfaaGreatDoor
open Go.Ev
noncomputable def G26 : Env := { pure := [(48, ofT F48)], conv := true }
theorem g26 : GOK Tryz.prog G26 := GOK.flags (GOK.also g0 ok48)
noncomputable def b26 : Code := ((Tryz.f26.body.map loopsOf).getD []).headD .skip
noncomputable def c26 : Code := (((Tryz.f26.body.map loopsOf).getD []).tail).headD .skip
def lnS (ls : List AV) : List UInt8 := ls.flatMap fun e => sE e ++ [13, 10]
theorem lnS_step {ls : List AV} {j : Nat} (h : j < ls.length) : lnS (ls.drop j) = sE (ls.getD j .unk) ++ [13, 10] ++ lnS (ls.drop (j + 1)) := by rw [drop_getD h]; rfl
def L26c : List AV → List (Option Row) → Tr LOut
  | [.slv (.agg [.str, .str]) es, .str o, .int .i64 i, .slv .str ls, .int .i64 q], [] =>
    .gd (cnt ls.length q ls.length && decide (o.length + (lnS (ls.drop q.toNat)).length ≤ 1000000000)) (.leaf (.exit 2, [.slv (.agg [.str, .str]) es, .str (o ++ lnS (ls.drop q.toNat)), .int .i64 i, .slv .str ls, .int .i64 ls.length], []))
  | _, _ => .no
def l26c : Ev.Loop := ⟨{ len := 40, slots := [0, 3, 4, 5, 6] }, ofL L26c⟩
def μ26c (vs : List AV) (_ : List (Option Row)) : Nat := match vs with
  | [_, _, _, .slv _ ls, .int _ i] => ((ls.length : Int) - i).toNat
  | _ => 0
theorem loop26c (K : List (Nat × Ev.Loop)) : LoopOK Tryz.prog G26 K c26 l26c := by
  refine loopT g26.natOK rfl (KOK.nil (by kernel_rfl)) μ26c (fun ρ vs rs k r h => ?_)
  unfold L26c at h
  split at h
  · rename_i es o i ls q
    obtain ⟨hc, hk⟩ := gd_some h
    obtain ⟨hc, hb⟩ := (Bool.and_eq_true _ _).mp hc
    have hb := of_decide_eq_true hb
    obtain ⟨-, hs, j, rfl, hj⟩ := cnt_spec hc
    rw [Int.toNat_natCast] at hk hb
    refine Eq.trans (b := have c80 := (IntKind.i64.wrap ((↑j : Int) + (1 : Int))); have c81 := ([13, 10] : List UInt8); bif decide ((↑j : Int) < (↑ls.length : Int)) then bif inb (↑j : Int) ls.length then bif lenB (o.length + (sE (ls.getD j AV.unk)).length) then bif lenB ((o ++ (sE (ls.getD j AV.unk))).length + c81.length) then bif decide (((↑ls.length : Int) - IntKind.i64.wrap ((↑j : Int) + (1 : Int))).toNat < ((↑ls.length : Int) - (↑j : Int)).toNat) then bif cnt (↑ls.length : Int) c80 ls.length && decide ((o ++ (sE (ls.getD j AV.unk)) ++ c81).length + (lnS (List.drop c80.toNat ls)).length ≤ (1000000000 : Nat)) then k (Ex.exit (2 : Nat)) [AV.slv (Sh.agg [Sh.str, Sh.str]) es, AV.str (o ++ (sE (ls.getD j AV.unk)) ++ c81 ++ lnS (List.drop c80.toNat ls)), AV.int IntKind.i64 i, AV.slv Sh.str ls, AV.int IntKind.i64 (↑ls.length : Int)] [] else none else none else none else none else none else k (Ex.exit (2 : Nat)) [AV.slv (Sh.agg [Sh.str, Sh.str]) es, AV.str o, AV.int IntKind.i64 i, AV.slv Sh.str ls, AV.int IntKind.i64 (↑j : Int)] []) (by kernel_rfl) ?_
    conv => zeta
    rw [← hk]
    by_cases hlt : j < ls.length
    · obtain ⟨e1, e2, e3, e4, e5⟩ := cnt_facts hlt hs
      rw [lnS_step hlt] at hb ⊢
      have l2 : ([13, 10] : List UInt8).length = 2 := rfl
      rw [List.length_append, List.length_append, l2] at hb
      have b1 : lenB (o.length + (sE (ls.getD j .unk)).length) = true := decide_eq_true (by omega)
      have b2 : lenB ((o ++ sE (ls.getD j .unk)).length + ([13, 10] : List UInt8).length) = true := decide_eq_true (by rw [List.length_append, l2]; omega)
      have b3 : decide ((o ++ sE (ls.getD j .unk) ++ [13, 10]).length + (lnS (ls.drop (j + 1))).length ≤ 1000000000) = true := decide_eq_true (by rw [List.length_append, List.length_append, l2]; omega)
      simp only [e1, e2, e3, e4, e5, b1, b2, b3, Bool.and_true, cond_true, Int.toNat_natCast, ← List.append_assoc]
      rfl
    · obtain rfl : j = ls.length := by omega
      rw [decide_eq_false (by omega), List.drop_length]
      show k _ [_, .str o, _, _, _] _ = k _ [_, .str (o ++ []), _, _, _] _
      rw [List.append_nil]
  · cases h
def hdS (es : List AV) : List UInt8 := es.flatMap fun e => lnS (strs (flL (fN e) (fV e)))
theorem hdS_step {es : List AV} {j : Nat} (h : j < es.length) : hdS (es.drop j) = lnS (strs (flL (fN (es.getD j .unk)) (fV (es.getD j .unk)))) ++ hdS (es.drop (j + 1)) := by rw [drop_getD h]; rfl
theorem lnS_strs : ∀ l : List (List UInt8), (lnS (strs l)).length = l.flatten.length + 2 * l.length
  | [] => rfl
  | s :: l => by
    show ((s ++ [13, 10]) ++ lnS (strs l)).length = _
    have e1 : (s :: l).length = l.length + 1 := rfl
    have e2 : ([13, 10] : List UInt8).length = 2 := rfl
    rw [List.length_append, List.length_append, lnS_strs l, List.flatten_cons, List.length_append, e1, e2]
    omega
theorem lnS_max (n v : List UInt8) : (lnS (strs (flL n v))).length ≤ 3 * (n.length + v.length) + 8 := by
  have h := flL_len n v
  rw [lnS_strs, flL_total]
  simp only [List.length_append]
  show n.length + 2 + v.length + _ ≤ _
  omega
def L26 : List AV → List (Option Row) → Tr LOut
  | [.slv (.agg [.str, .str]) es, .str o, .int .i64 i], [] =>
    .gd (cnt es.length i es.length && (decide (o.length ≤ 200000 * i ∧ es.length ≤ 1000) && es.all okV)) (.leaf (.exit 0, [.slv (.agg [.str, .str]) es, .str (o ++ hdS (es.drop i.toNat)), .int .i64 es.length], []))
  | _, _ => .no
def l26 : Ev.Loop := ⟨{ len := 40, slots := [0, 3, 4] }, ofL L26⟩
def μ26 (vs : List AV) (_ : List (Option Row)) : Nat := match vs with
  | [.slv _ es, _, .int _ i] => ((es.length : Int) - i).toNat
  | _ => 0
theorem loop26 : LoopOK Tryz.prog G26 [(3, l26), (7, l26c)] b26 l26 := by
  refine loopT g26.natOK rfl (KOK.one (b := c26) (l := l26c) (by kernel_rfl) (by kernel_rfl) (loop26c _)) μ26 (fun ρ vs rs k r h => ?_)
  unfold L26 at h
  split at h
  · rename_i es o i
    obtain ⟨hc, hk⟩ := gd_some h
    simp only [Bool.and_eq_true] at hc
    obtain ⟨hc, hb, hall⟩ := hc
    obtain ⟨hb, hn⟩ := of_decide_eq_true hb
    obtain ⟨-, hs, j, rfl, hj⟩ := cnt_spec hc
    rw [Int.toNat_natCast] at hk
    refine Eq.trans (b := have c80 := (strs (flL (fN (es.getD j AV.unk)) (fV (es.getD j AV.unk)))); bif decide ((↑j : Int) < (↑es.length : Int)) then bif inb (↑j : Int) es.length then bif inb (↑j : Int) es.length then bif decide ((fN (es.getD j AV.unk)).length + (fV (es.getD j AV.unk)).length ≤ (50000 : Nat)) then bif cnt (↑c80.length : Int) (0 : Int) c80.length && decide (o.length + (lnS (List.drop (0 : Nat) c80)).length ≤ (1000000000 : Nat)) then bif decide (((↑es.length : Int) - IntKind.i64.wrap ((↑j : Int) + (1 : Int))).toNat < ((↑es.length : Int) - (↑j : Int)).toNat) then bif cnt (↑es.length : Int) (IntKind.i64.wrap ((↑j : Int) + (1 : Int))) es.length && (decide ((↑(o ++ lnS (List.drop (0 : Nat) c80)).length : Int) ≤ (200000 : Int) * IntKind.i64.wrap ((↑j : Int) + (1 : Int)) ∧ es.length ≤ (1000 : Nat)) && es.all okV) then k (Ex.exit (0 : Nat)) [AV.slv (Sh.agg [Sh.str, Sh.str]) es, AV.str (o ++ lnS (List.drop (0 : Nat) c80) ++ hdS (List.drop (IntKind.i64.wrap ((↑j : Int) + (1 : Int))).toNat es)), AV.int IntKind.i64 (↑es.length : Int)] [] else none else none else none else none else none else none else k (Ex.exit (0 : Nat)) [AV.slv (Sh.agg [Sh.str, Sh.str]) es, AV.str o, AV.int IntKind.i64 (↑j : Int)] []) (by kernel_rfl) ?_
    conv => zeta
    rw [← hk]
    by_cases hlt : j < es.length
    · obtain ⟨e1, e2, e3, e4, e5⟩ := cnt_facts hlt hs
      have hok : decide ((fN (es.getD j .unk)).length + (fV (es.getD j .unk)).length ≤ 50000) = true := List.all_eq_true.1 hall _ (by rw [getD_eq hlt]; exact List.getElem_mem hlt)
      have hok' := of_decide_eq_true hok
      have hmx := lnS_max (fN (es.getD j .unk)) (fV (es.getD j .unk))
      rw [hdS_step hlt]
      have hsl : (strs (flL (fN (es.getD j .unk)) (fV (es.getD j .unk)))).length = (flL (fN (es.getD j .unk)) (fV (es.getD j .unk))).length := List.length_map _
      have hfl := flL_len (fN (es.getD j .unk)) (fV (es.getD j .unk))
      have c1 : cnt (strs (flL (fN (es.getD j .unk)) (fV (es.getD j .unk)))).length 0 (strs (flL (fN (es.getD j .unk)) (fV (es.getD j .unk)))).length = true := cnt_zero (decide_eq_true (by omega))
      have z0 : Int.toNat 0 = 0 := rfl
      have b1 : decide (o.length + (lnS (strs (flL (fN (es.getD j .unk)) (fV (es.getD j .unk))))).length ≤ 1000000000) = true := decide_eq_true (by omega)
      have b2 : decide (((o ++ lnS (strs (flL (fN (es.getD j .unk)) (fV (es.getD j .unk))))).length : Int) ≤ 200000 * ((j + 1 : Nat) : Int) ∧ es.length ≤ 1000) = true := decide_eq_true ⟨by rw [List.length_append]; omega, hn⟩
      simp only [e1, e2, e3, e4, e5, hok, hall, c1, List.drop_zero, b1, b2, Bool.and_true, cond_true, Int.toNat_natCast, ← List.append_assoc]
      rfl
    · obtain rfl : j = es.length := by omega
      rw [decide_eq_false (by omega), List.drop_length]
      show k _ [_, .str o, _] _ = k _ [_, .str (o ++ []), _] _
      rw [List.append_nil]
  · cases h
theorem hdS_max : ∀ es : List AV, es.all okV = true → (hdS es).length ≤ 200000 * es.length
  | [], _ => Nat.le_refl _
  | e :: es, h => by
    rw [List.all_cons] at h
    obtain ⟨h1, h2⟩ := (Bool.and_eq_true _ _).mp h
    have ih := hdS_max es h2
    have hm := lnS_max (fN e) (fV e)
    have h1 : (fN e).length + (fV e).length ≤ 50000 := of_decide_eq_true h1
    show (lnS (strs (flL (fN e) (fV e))) ++ hdS es).length ≤ _
    rw [List.length_append, List.length_cons]
    omega
def F26 : List AV → Tr AV
  | [.slv (.agg [.str, .str]) es] => .gd (decide (es.length ≤ 1000) && es.all okV) (.leaf (.slv (.int .u8) (bytesAV (hdS es ++ [13, 10]))))
  | _ => .no
theorem ok26 : SumOK Tryz.prog 26 (ofT F26) ∧ SNat (ofT F26) := by
  refine fnT (K := [(3, l26), (7, l26c)]) g26 Tryz.func26 (bs := [b26, c26]) (by kernel_rfl) (fun b hb => ?_) fun ρ avs k r h => ?_
  · simp at hb
    rcases hb with rfl | rfl
    · exact ⟨l26, by kernel_rfl, loop26⟩
    · exact ⟨l26c, by kernel_rfl, loop26c _⟩
  unfold F26 at h
  split at h
  · rename_i es
    obtain ⟨hc, hk⟩ := gd_some h
    obtain ⟨hn, hall⟩ := (Bool.and_eq_true _ _).mp hc
    have hn := of_decide_eq_true hn
    have hmx := hdS_max es hall
    refine Eq.trans (b := have c80 := (([] : List UInt8) ++ hdS (List.drop (0 : Nat) es) ++ ([13, 10] : List UInt8)); bif cnt (↑es.length : Int) (0 : Int) es.length && (decide ((↑([] : List UInt8).length : Int) ≤ (200000 : Int) * (0 : Int) ∧ es.length ≤ (1000 : Nat)) && es.all okV) then bif lenB ((([] : List UInt8) ++ hdS (List.drop (0 : Nat) es)).length + ([13, 10] : List UInt8).length) then bif lenB c80.length then k (AV.slv (Sh.int IntKind.u8) (bytesAV c80)) else none else none else none) (by kernel_rfl) ?_
    conv => zeta
    rw [← hk]
    have l2 : ([13, 10] : List UInt8).length = 2 := rfl
    refine Eq.trans (cond_t (and_t (cnt_zero (decide_eq_true (by omega))) (and_t (decide_eq_true ⟨by simp, hn⟩) hall))) ?_
    simp only [List.drop_zero, List.nil_append]
    refine Eq.trans (cond_t (decide_eq_true (by rw [l2]; omega))) (cond_t (decide_eq_true (by rw [List.length_append, l2]; omega)))
  · cases h
noncomputable def G8 : Env := { pure := [(25, ofT F25), (26, ofT F26), (28, ofT F28), (27, evF Tryz.prog G0 [] Tryz.f27)] }
theorem g8 : GOK Tryz.prog G8 := GOK.also (GOK.also (GOK.also (GOK.also g0 (inl g0 Tryz.func27 (by kernel_rfl))) ok28) ok26) ok25
def mfC (es bs : List AV) : Int := bif fsC es != 0 then fsC es else bif decide ((bs.length : Int) > 12000) then 1 else bif decide (((bytesAV (hdS es ++ [13, 10])).length : Int) + bs.length > 12000) then 1 else mbC bs
def mfI (es bs : List AV) : Int := bif fsC es != 0 then fsI es else bif decide ((bs.length : Int) > 12000) then -4 else bif decide (((bytesAV (hdS es ++ [13, 10])).length : Int) + bs.length > 12000) then -4 else mbI bs
def F8 : List AV → Tr AV
  | [.agg [.slv (.agg [.str, .str]) es, .slv (.int .u8) bs]] => .gd (decide (es.length ≤ 1000 ∧ bs.length ≤ 1000000) && es.all okV) (.leaf (.agg [.int .i64 (mfC es bs), .int .i64 (mfI es bs)]))
  | _ => .no
theorem ok8 : SumOK Tryz.prog 8 (ofT F8) ∧ SNat (ofT F8) := by
  refine fn0 g8 Tryz.func8 (by kernel_rfl) fun ρ avs k r h => ?_
  unfold F8 at h
  split at h
  · rename_i es bs
    obtain ⟨hc, hk⟩ := gd_some h
    refine Eq.trans (b := bif small es.length && es.all okV then bif fsC es != (0 : Int) then k (AV.agg [AV.int IntKind.i64 (fsC es), AV.int IntKind.i64 (fsI es)]) else bif decide ((↑bs.length : Int) > (12000 : Int)) then k (AV.agg [AV.int IntKind.i64 1, AV.int IntKind.i64 (-4 : Int)]) else bif decide (es.length ≤ (1000 : Nat)) && es.all okV then bif decide (IntKind.i64.wrap ((↑(bytesAV (hdS es ++ [(13 : UInt8), (10 : UInt8)])).length : Int) + (↑bs.length : Int)) > (12000 : Int)) then k (AV.agg [AV.int IntKind.i64 1, AV.int IntKind.i64 (-4 : Int)]) else bif decide (bs.length ≤ (1000000 : Nat)) then k (AV.agg [AV.int IntKind.i64 (mbC bs), AV.int IntKind.i64 (mbI bs)]) else none else none else none) (by kernel_rfl) ?_
    rw [← hk]
    obtain ⟨hc, hall⟩ := (Bool.and_eq_true _ _).mp hc
    obtain ⟨h1, h2⟩ := of_decide_eq_true hc
    have hmx := hdS_max es hall
    have hlen : (bytesAV (hdS es ++ [13, 10])).length = (hdS es).length + 2 := by rw [bytesAV_length, List.length_append]; rfl
    have w : IntKind.i64.wrap (((bytesAV (hdS es ++ [13, 10])).length : Int) + bs.length) = ((bytesAV (hdS es ++ [13, 10])).length : Int) + bs.length := wrap_mid _ (by omega) (by omega)
    unfold mfC mfI
    rw [w]
    refine Eq.trans (cond_t (and_t (decide_eq_true (by omega)) hall)) ?_
    cases fsC es != 0
    · cases decide ((bs.length : Int) > 12000)
      · refine Eq.trans (cond_f rfl) (Eq.trans (cond_f rfl) (Eq.trans (cond_t (and_t (decide_eq_true h1) hall)) ?_))
        cases decide (((bytesAV (hdS es ++ [13, 10])).length : Int) + bs.length > 12000)
        · exact Eq.trans (cond_f rfl) (cond_t (decide_eq_true h2))
        · rfl
      · rfl
    · rfl
  · cases h
end Go.Proofs.YtpmlhkoianekfaaGreatDoor

namespace Go.Proofs.YtpmlhkoianekfaaGreatDoor
open Go.Ev
def F41 : List AV → List Row → Tr XOut
  | [.slv (.int .u8) es], [] => .leaf (.fn 77 [.ptr RID 0], [], [.box false [.slv (.int .u8) es]])
  | _, _ => .no
theorem ok41 : XOK Tryz.prog 41 (ofX F41) ∧ XNat (ofX F41) := by
  refine ⟨xsum0 (H := []) g0 Tryz.func41 (by kernel_rfl) fun ρ avs rows k r h => ?_, xnat_ofX _⟩
  change (F41 avs rows).run _ = some r at h
  unfold F41 at h
  split at h
  · rename_i es
    have hk := h
    refine ⟨by simp, fun rows' hsp => ?_⟩
    obtain rfl : rows' = [] := by cases rows' with | nil => rfl | cons a b => exact hsp.elim
    refine Eq.trans (b := k (AV.fn (77 : Nat) [AV.ptr (2251799813685248 : Nat) (0 : Nat)]) [] [Row.box false [AV.slv (Sh.int IntKind.u8) es]]) (by kernel_rfl) ?_
    exact hk
  · cases h
def FY17 : List AV → List Row → Tr XOut
  | [.own p, .agg [.int .u8 a0, .int .u8 a1, .int .u8 a2, .int .u8 a3]], [.box false [.tup [.int .i64 1], .slv (.int .u8) bs, .undef, .slz (.int .u8), .ptr 1125899906842625 0, .ptr 1125899906842626 0, .ptr 1125899906842628 0, .undef, .slv (.int .u8) bs1, .int .i64 bl, .bool bb, .undef, .slv (.int .u8) bs2, .fn 77 [.ptr 1125899906842629 0], .undef, .undef, .undef, .undef, .undef, .undef, .undef, .undef, .undef, .undef, .undef, .undef, .undef, .undef, .undef, .undef, .undef, .undef], .box false [.int .i64 z0, .int .i64 z1], .box false [.own 1125899906842627], .arr false (.int .u8) e5 out none, .box false [.int .i64 c], .box false [.slv (.int .u8) es]] =>
    .gd (p == PID && decide (e5 = 5 ∧ out.length ≤ 1000000 ∧ 0 ≤ c ∧ c ≤ 76)) (.leaf (.bool true, [some (.box false [.tup [.int .i64 1], .slv (.int .u8) bs, .undef, .slz (.int .u8), .ptr 1125899906842625 0, .ptr 1125899906842626 0, .ptr 1125899906842628 0, .undef, .slv (.int .u8) bs1, .int .i64 bl, .bool bb, .undef, .slv (.int .u8) bs2, .fn 77 [.ptr 1125899906842629 0], .undef, .undef, .undef, .undef, .undef, .undef, .undef, .undef, .undef, .undef, .undef, .undef, .undef, .undef, .undef, .undef, .undef, .undef]), some (.box false [.int .i64 z0, .int .i64 z1]), some (.box false [.own RID]), none, some (.box false [.int .i64 (col4 c)]), some (.box false [.slv (.int .u8) es])], [.arr false (.int .u8) 5 (out ++ pre4 c ++ [.int .u8 a0, .int .u8 a1, .int .u8 a2, .int .u8 a3]) none]))
  | _, _ => .no
theorem yok17 : YOK Tryz.prog 1 (ofX FY17) ∧ XNat (ofX FY17) := by
  refine ⟨yok_of g0 (drawOK g0 (by kernel_rfl)) rfl (q := loopCode 1) rfl (KOK.nil (by kernel_rfl)) (KOK.nil (by kernel_rfl)) (K := []) fun ρ avs rows k r h => ?_, xnat_ofX FY17⟩
  have h' : (FY17 avs rows).run (fun q => k q.1 q.2.1 q.2.2) = some r := h
  unfold FY17 at h'
  split at h'
  · rename_i p a0 a1 a2 a3 bs bs1 bl bb bs2 z0 z1 e5 out c es
    obtain ⟨hc, hk⟩ := gd_some h'
    obtain ⟨hp, hc⟩ := (Bool.and_eq_true _ _).mp hc
    obtain rfl : p = PID := by simpa using hp
    obtain ⟨rfl, h1, h2, h3⟩ := of_decide_eq_true hc
    refine Eq.trans (b := have c80 := (Row.box false [AV.tup [AV.int IntKind.i64 1], AV.slv (Sh.int IntKind.u8) bs, AV.undef, AV.slz (Sh.int IntKind.u8), AV.ptr 1125899906842625 0, AV.ptr 1125899906842626 0, AV.ptr 1125899906842628 0, AV.undef, AV.slv (Sh.int IntKind.u8) bs1, AV.int IntKind.i64 bl, AV.bool bb, AV.undef, AV.slv (Sh.int IntKind.u8) bs2, AV.fn (77 : Nat) [AV.ptr 1125899906842629 0], AV.undef, AV.undef, AV.undef, AV.undef, AV.undef, AV.undef, AV.undef, AV.undef, AV.undef, AV.undef, AV.undef, AV.undef, AV.undef, AV.undef, AV.undef, AV.undef, AV.undef, AV.undef]); have c81 := [AV.int IntKind.u8 a0, AV.int IntKind.u8 a1, AV.int IntKind.u8 a2, AV.int IntKind.u8 a3]; bif c == (76 : Int) then bif roomB (out.length + [AV.int IntKind.u8 13, AV.int IntKind.u8 10].length) (Tryz.prog.bytesOf 5) then bif roomB ((out ++ [AV.int IntKind.u8 13, AV.int IntKind.u8 10]).length + c81.length) (Tryz.prog.bytesOf 5) then k (AV.bool true) [some c80, some (Row.box false [AV.int IntKind.i64 z0, AV.int IntKind.i64 z1]), some (Row.box false [AV.own 2251799813685248]), none, some (Row.box false [AV.int IntKind.i64 (IntKind.i64.wrap ((0 : Int) + (4 : Int)))]), some (Row.box false [AV.slv (Sh.int IntKind.u8) es])] [Row.arr false (Sh.int IntKind.u8) (5 : Nat) (out ++ [AV.int IntKind.u8 13, AV.int IntKind.u8 10] ++ c81) none] else none else none else bif roomB (out.length + c81.length) (Tryz.prog.bytesOf 5) then k (AV.bool true) [some c80, some (Row.box false [AV.int IntKind.i64 z0, AV.int IntKind.i64 z1]), some (Row.box false [AV.own 2251799813685248]), none, some (Row.box false [AV.int IntKind.i64 (IntKind.i64.wrap (c + (4 : Int)))]), some (Row.box false [AV.slv (Sh.int IntKind.u8) es])] [Row.arr false (Sh.int IntKind.u8) (5 : Nat) (out ++ c81) none] else none) (by kernel_rfl) ?_
    conv => zeta
    rw [← hk]
    have w4 : IntKind.i64.wrap (0 + 4) = 4 := by decide
    have wc : IntKind.i64.wrap (c + 4) = c + 4 := wrap_mid _ (by omega) (by omega)
    have l2 : ([.int .u8 13, .int .u8 10] : List AV).length = 2 := rfl
    have l4 : ([.int .u8 a0, .int .u8 a1, .int .u8 a2, .int .u8 a3] : List AV).length = 4 := rfl
    unfold pre4 col4
    rw [w4, wc]
    cases c == 76
    · refine Eq.trans (cond_f rfl) (Eq.trans (cond_t (room5 (by rw [l4]; omega))) ?_)
      simp only [cond_false, List.append_nil]
      rfl
    · refine Eq.trans (cond_t rfl) (Eq.trans (cond_t (room5 (by rw [l2]; omega))) (Eq.trans (cond_t (room5 (by rw [List.length_append, l2, l4]; omega))) rfl))
  · cases h'
noncomputable def G77 : Env := { pure := [], yld := some (1, 1, ofX FY17) }
theorem g77 : GOK Tryz.prog G77 := GOK.yields g0 (by kernel_rfl) yok17
noncomputable def b77 : Code := ((Tryz.f77.body.map loopsOf).getD []).headD .skip
noncomputable def c77 : Code := (((Tryz.f77.body.map loopsOf).getD []).tail).headD .skip
noncomputable def d77 : Code := (((Tryz.f77.body.map loopsOf).getD []).tail.tail).headD .skip
def xIt (es : List AV) (n : Nat) : Nat → Nat → Nat → Nat
  | 0, x, _ => x
  | m + 1, x, i => xIt es n m (x * 256 + bif decide (i < n) then nE (es.getD i .unk) else 0) (i + 1)
theorem or8 {a v : Nat} (ha : a < 16777216) (hv : v < 256) : IntKind.i64.wrap (((BitVec.ofInt IntKind.i64.bits (IntKind.i64.wrap ((a : Int) * 2 ^ min (Int.toNat 8) IntKind.i64.bits)) ||| BitVec.ofInt IntKind.i64.bits (v : Int)).toNat : Nat) : Int) = ((a * 256 + v : Nat) : Int) := by
  have h6 : (2 : Int) ^ min (Int.toNat 8) IntKind.i64.bits = 256 := by decide
  have hw : IntKind.i64.wrap ((a : Int) * 256) = ((a * 256 : Nat) : Int) := by rw [wrap_small _ (by omega) (by omega)]; omega
  rw [h6, hw, bits64, BitVec.toNat_or, bv_nat _ (by omega), bv_nat _ (by omega)]
  have ho : a * 256 ||| v = a * 256 + v := by
    have := Nat.two_pow_add_eq_or_of_lt (i := 8) (show v < 2 ^ 8 by omega) a
    rw [show (2 : Nat) ^ 8 = 256 from rfl, Nat.mul_comm] at this
    exact this.symm
  rw [ho, wrap_small _ (by omega) (by omega)]
theorem nE_at {es : List AV} (h : es.all bE = true) {j : Nat} (hj : j < es.length) : iE (es.getD j .unk) = (nE (es.getD j .unk) : Int) ∧ nE (es.getD j .unk) < 256 := by
  obtain ⟨n, hn, e⟩ := byt_of h (es.getD j .unk) (by rw [getD_eq hj]; exact List.getElem_mem hj)
  rw [e]
  exact ⟨(congrArg Int.ofNat (Int.toNat_natCast n)).symm, by show (n : Int).toNat < 256; omega⟩
def stP : List (Option Row) → Option (List AV × List AV × Int × Bool × List AV × Int × Int × Int × List AV × TypeId × List AV)
  | [some (.box false [.tup [.int .i64 1], .slv (.int .u8) bs, .undef, .slz (.int .u8), .ptr 1125899906842625 0, .ptr 1125899906842626 0, .ptr 1125899906842627 0, .undef, .slv (.int .u8) bs1, .int .i64 bl, .bool bb, .undef, .slv (.int .u8) bs2, .fn 77 [.ptr 1125899906842628 0], .undef, .undef, .undef, .undef, .undef, .undef, .undef, .undef, .undef, .undef, .undef, .undef, .undef, .undef, .undef, .undef, .undef, .undef]), some (.box false [.int .i64 z0, .int .i64 z1]), some (.box false [.own 901]), some (.box false [.int .i64 c]), some (.box false [.slv (.int .u8) es]), some (.arr false (.int .u8) e5 out none)] => some (bs, bs1, bl, bb, bs2, z0, z1, c, es, e5, out)
  | _ => none
theorem stP_inv {rs : List (Option Row)} {bs bs1 : List AV} {bl : Int} {bb : Bool} {bs2 : List AV} {z0 z1 c : Int} {es : List AV} {e5 : TypeId} {out : List AV} (h : stP rs = some (bs, bs1, bl, bb, bs2, z0, z1, c, es, e5, out)) : rs = [some (.box false [.tup [.int .i64 1], .slv (.int .u8) bs, .undef, .slz (.int .u8), .ptr 1125899906842625 0, .ptr 1125899906842626 0, .ptr 1125899906842627 0, .undef, .slv (.int .u8) bs1, .int .i64 bl, .bool bb, .undef, .slv (.int .u8) bs2, .fn 77 [.ptr 1125899906842628 0], .undef, .undef, .undef, .undef, .undef, .undef, .undef, .undef, .undef, .undef, .undef, .undef, .undef, .undef, .undef, .undef, .undef, .undef]), some (.box false [.int .i64 z0, .int .i64 z1]), some (.box false [.own 901]), some (.box false [.int .i64 c]), some (.box false [.slv (.int .u8) es]), some (.arr false (.int .u8) e5 out none)] := by
  unfold stP at h
  split at h
  · simp only [Option.some.injEq, Prod.mk.injEq] at h
    obtain ⟨rfl, rfl, rfl, rfl, rfl, rfl, rfl, rfl, rfl, rfl, rfl⟩ := h
    rfl
  · cases h
def L77a : List AV → List (Option Row) → Tr LOut
  | [.own 1125899906842624, .ptr 1125899906842628 0, .int .i64 n, .int .i64 x, .int .i64 i], rs => match stP rs with
    | some (_bs, _bs1, _bl, _bb, _bs2, _z0, _z1, _c, es, _e5, _out) => .gd (decide (0 ≤ i ∧ i ≤ 3 ∧ n ≤ es.length ∧ 0 ≤ n ∧ n ≤ 3 ∧ 0 ≤ x ∧ x.toNat < 256 ^ i.toNat) && es.all bE) (.leaf (.exit 2, [.own 1125899906842624, .ptr 1125899906842628 0, .int .i64 n, .int .i64 ((xIt es n.toNat (3 - i.toNat) x.toNat i.toNat : Nat) : Int), .int .i64 3], rs))
    | none => .no
  | _, _ => .no
def l77a : Ev.Loop := ⟨{ len := 55, slots := [0, 1, 3, 4, 14], rows := [1125899906842624, 1125899906842625, 1125899906842626, 1125899906842627, 1125899906842628, 901] }, ofL L77a⟩
def μ77a (vs : List AV) (_ : List (Option Row)) : Nat := match vs with
  | [_, _, _, _, .int _ i] => (3 - i).toNat
  | _ => 0
theorem loop77a (K : List (Nat × Ev.Loop)) : LoopOK Tryz.prog G77 K c77 l77a := by
  refine loopT g77.natOK rfl (KOK.nil (by kernel_rfl)) μ77a (fun ρ vs rs k r h => ?_)
  unfold L77a at h
  split at h
  · rename_i rs' n x i
    split at h
    rotate_left
    · cases h
    rename_i bs bs1 bl bb bs2 z0 z1 c es e5 out hst
    obtain rfl := stP_inv hst
    clear hst
    obtain ⟨hc, hk⟩ := gd_some h
    obtain ⟨hc, hall⟩ := (Bool.and_eq_true _ _).mp hc
    obtain ⟨h0, h1, h2, h3, h4, h5, h6⟩ := of_decide_eq_true hc
    obtain ⟨j, rfl⟩ : ∃ j : Nat, i = j := ⟨i.toNat, by omega⟩
    obtain ⟨N, rfl⟩ : ∃ N : Nat, n = N := ⟨n.toNat, by omega⟩
    obtain ⟨X, rfl⟩ : ∃ X : Nat, x = X := ⟨x.toNat, by omega⟩
    simp only [Int.toNat_natCast] at hk h6
    refine Eq.trans (b := have c80 := [some (Row.box false [AV.tup [AV.int IntKind.i64 1], AV.slv (Sh.int IntKind.u8) bs, AV.undef, AV.slz (Sh.int IntKind.u8), AV.ptr 1125899906842625 0, AV.ptr 1125899906842626 0, AV.ptr 1125899906842627 0, AV.undef, AV.slv (Sh.int IntKind.u8) bs1, AV.int IntKind.i64 bl, AV.bool bb, AV.undef, AV.slv (Sh.int IntKind.u8) bs2, AV.fn (77 : Nat) [AV.ptr 1125899906842628 0], AV.undef, AV.undef, AV.undef, AV.undef, AV.undef, AV.undef, AV.undef, AV.undef, AV.undef, AV.undef, AV.undef, AV.undef, AV.undef, AV.undef, AV.undef, AV.undef, AV.undef, AV.undef]), some (Row.box false [AV.int IntKind.i64 z0, AV.int IntKind.i64 z1]), some (Row.box false [AV.own 901]), some (Row.box false [AV.int IntKind.i64 c]), some (Row.box false [AV.slv (Sh.int IntKind.u8) es]), some (Row.arr false (Sh.int IntKind.u8) e5 out none)]; have c81 := (↑(BitVec.ofInt IntKind.i64.bits (IntKind.i64.wrap ((↑X : Int) * (2 : Int) ^ min (Int.toNat (8 : Int)) IntKind.i64.bits)) ||| BitVec.ofInt IntKind.i64.bits (IntKind.i64.wrap (iE (es.getD j AV.unk)))).toNat : Int); have c82 := (IntKind.i64.wrap ((↑j : Int) + (1 : Int))); bif decide ((↑j : Int) < (3 : Int)) then bif decide ((↑j : Int) < (↑N : Int)) then bif inb (↑j : Int) es.length then bif decide (((3 : Int) - IntKind.i64.wrap ((↑j : Int) + (1 : Int))).toNat < ((3 : Int) - (↑j : Int)).toNat) then bif decide ((0 : Int) ≤ IntKind.i64.wrap ((↑j : Int) + (1 : Int)) ∧ IntKind.i64.wrap ((↑j : Int) + (1 : Int)) ≤ (3 : Int) ∧ (↑N : Int) ≤ (↑es.length : Int) ∧ (0 : Int) ≤ (↑N : Int) ∧ (↑N : Int) ≤ (3 : Int) ∧ (0 : Int) ≤ IntKind.i64.wrap c81 ∧ (IntKind.i64.wrap c81).toNat < (256 : Nat) ^ c82.toNat) && es.all bE then k (Ex.exit (2 : Nat)) [AV.own 1125899906842624, AV.ptr 1125899906842628 0, AV.int IntKind.i64 (↑N : Int), AV.int IntKind.i64 (↑(xIt es N ((3 : Nat) - c82.toNat) (IntKind.i64.wrap c81).toNat c82.toNat) : Int), AV.int IntKind.i64 3] c80 else none else none else none else bif decide (((3 : Int) - IntKind.i64.wrap ((↑j : Int) + (1 : Int))).toNat < ((3 : Int) - (↑j : Int)).toNat) then bif decide ((0 : Int) ≤ IntKind.i64.wrap ((↑j : Int) + (1 : Int)) ∧ IntKind.i64.wrap ((↑j : Int) + (1 : Int)) ≤ (3 : Int) ∧ (↑N : Int) ≤ (↑es.length : Int) ∧ (0 : Int) ≤ (↑N : Int) ∧ (↑N : Int) ≤ (3 : Int) ∧ (0 : Int) ≤ IntKind.i64.wrap ((↑X : Int) * (2 : Int) ^ min (Int.toNat (8 : Int)) IntKind.i64.bits) ∧ (IntKind.i64.wrap ((↑X : Int) * (2 : Int) ^ min (Int.toNat (8 : Int)) IntKind.i64.bits)).toNat < (256 : Nat) ^ c82.toNat) && es.all bE then k (Ex.exit (2 : Nat)) [AV.own 1125899906842624, AV.ptr 1125899906842628 0, AV.int IntKind.i64 (↑N : Int), AV.int IntKind.i64 (↑(xIt es N ((3 : Nat) - c82.toNat) (IntKind.i64.wrap ((↑X : Int) * (2 : Int) ^ min (Int.toNat (8 : Int)) IntKind.i64.bits)).toNat c82.toNat) : Int), AV.int IntKind.i64 3] c80 else none else none else k (Ex.exit (2 : Nat)) [AV.own 1125899906842624, AV.ptr 1125899906842628 0, AV.int IntKind.i64 (↑N : Int), AV.int IntKind.i64 (↑X : Int), AV.int IntKind.i64 (↑j : Int)] c80) (by kernel_rfl) ?_
    conv => zeta
    rw [← hk]
    by_cases hlt : j < 3
    · have hp : (256 : Nat) ^ j ≤ 65536 := Nat.le_trans (Nat.pow_le_pow_right (by decide) (show j ≤ 2 by omega)) (by decide)
      have w1 : IntKind.i64.wrap ((j : Int) + 1) = ((j + 1 : Nat) : Int) := by rw [wrap_small _ (by omega) (by omega)]; omega
      have d0 : decide ((j : Int) < 3) = true := decide_eq_true (by omega)
      have m1 : decide ((3 - ((j + 1 : Nat) : Int)).toNat < (3 - (j : Int)).toNat) = true := decide_eq_true (by omega)
      have e3 : 3 - j = (3 - (j + 1)) + 1 := by omega
      have hw : IntKind.i64.wrap ((X : Int) * 2 ^ min (Int.toNat 8) IntKind.i64.bits) = ((X * 256 + 0 : Nat) : Int) := by
        have h6 : (2 : Int) ^ min (Int.toNat 8) IntKind.i64.bits = 256 := by decide
        rw [h6, wrap_small _ (by omega) (by omega)]; omega
      have hx : ∀ v : Nat, v < 256 → X * 256 + v < 256 ^ (j + 1) := fun v hv => by
        rw [Nat.pow_succ]
        have : (X + 1) * 256 ≤ 256 ^ j * 256 := Nat.mul_le_mul_right _ h6
        omega
      rw [e3]
      have hs : xIt es N (3 - (j + 1) + 1) X j = xIt es N (3 - (j + 1)) (X * 256 + bif decide (j < N) then nE (es.getD j .unk) else 0) (j + 1) := rfl
      rw [hs]
      by_cases hN : j < N
      · have i0 : inb (j : Int) es.length = true := inb_true (by omega) (by omega)
        obtain ⟨n1, n2⟩ := nE_at hall (show j < es.length by omega)
        have wv : IntKind.i64.wrap (nE (es.getD j .unk) : Int) = (nE (es.getD j .unk) : Int) := wrap_small _ (by omega) (by omega)
        have hor := or8 (show X < 16777216 by omega) n2
        have d1 : decide ((j : Int) < (N : Int)) = true := decide_eq_true (by omega)
        have g : decide (0 ≤ ((j + 1 : Nat) : Int) ∧ ((j + 1 : Nat) : Int) ≤ 3 ∧ (N : Int) ≤ (es.length : Int) ∧ 0 ≤ (N : Int) ∧ (N : Int) ≤ 3 ∧ 0 ≤ ((X * 256 + nE (es.getD j .unk) : Nat) : Int) ∧ X * 256 + nE (es.getD j .unk) < 256 ^ (j + 1)) = true := decide_eq_true ⟨by omega, by omega, by omega, by omega, by omega, by omega, hx _ n2⟩
        rw [decide_eq_true hN]
        simp only [n1, wv, hor, w1, d0, d1, i0, m1, g, hall, cond_true, Int.toNat_natCast, Bool.and_true]
        rfl
      · have d1 : decide ((j : Int) < (N : Int)) = false := decide_eq_false (by omega)
        have g : decide (0 ≤ ((j + 1 : Nat) : Int) ∧ ((j + 1 : Nat) : Int) ≤ 3 ∧ (N : Int) ≤ (es.length : Int) ∧ 0 ≤ (N : Int) ∧ (N : Int) ≤ 3 ∧ 0 ≤ ((X * 256 + 0 : Nat) : Int) ∧ X * 256 + 0 < 256 ^ (j + 1)) = true := decide_eq_true ⟨by omega, by omega, by omega, by omega, by omega, by omega, hx 0 (by omega)⟩
        rw [decide_eq_false hN]
        simp only [hw, w1, d0, d1, m1, g, hall, cond_true, cond_false, Int.toNat_natCast, Bool.and_true]
        rfl
    · obtain rfl : j = 3 := by omega
      rfl
  · cases h
def let4 (x n i : Nat) : Int := bif decide (i > n) then 61 else ((b64A.getD (x / 2 ^ (18 - 6 * i) % 64) 0).toNat : Int)
theorem nn_pow (q : Nat) : (0 : Int) ≤ ((2 ^ q : Nat) : Int) := Int.natCast_nonneg _
theorem fdiv_pow (X q : Nat) : (X : Int).fdiv (2 ^ q) = ((X / 2 ^ q : Nat) : Int) := by
  have h2 : (2 : Int) ^ q = ((2 ^ q : Nat) : Int) := by norm_cast
  rw [h2, Int.fdiv_eq_ediv_of_nonneg _ (nn_pow q)]
  norm_cast
theorem and63 {Y : Nat} (h : Y < 16777216) : IntKind.i64.wrap (((BitVec.ofInt IntKind.i64.bits (Y : Int) &&& BitVec.ofInt IntKind.i64.bits 63).toNat : Nat) : Int) = ((Y % 64 : Nat) : Int) := by
  rw [show (63 : Int) = ((63 : Nat) : Int) from rfl, bits64, BitVec.toNat_and, bv_nat _ (by omega), bv_nat _ (by omega), show (63 : Nat) = 2 ^ 6 - 1 from rfl, Nat.and_two_pow_sub_one_eq_mod]
  exact wrap_small _ (by omega) (by omega)
theorem lt_idx {x i : Int} (h0 : 0 ≤ x) (h1 : x < 16777216) (hi0 : 0 ≤ i) (hi : i ≤ 3) : IntKind.i64.wrap (((BitVec.ofInt IntKind.i64.bits (x.fdiv (2 ^ min (IntKind.i64.wrap (18 - IntKind.i64.wrap (6 * i))).toNat IntKind.i64.bits)) &&& BitVec.ofInt IntKind.i64.bits 63).toNat : Nat) : Int) = ((x.toNat / 2 ^ (18 - 6 * i.toNat) % 64 : Nat) : Int) := by
  obtain ⟨X, rfl⟩ : ∃ X : Nat, x = X := ⟨x.toNat, by omega⟩
  obtain ⟨j, rfl⟩ : ∃ j : Nat, i = j := ⟨i.toNat, by omega⟩
  have w1 : IntKind.i64.wrap (18 - IntKind.i64.wrap (6 * (j : Int))) = ((18 - 6 * j : Nat) : Int) := by rw [wrap_small (6 * (j : Int)) (by omega) (by omega), wrap_small _ (by omega) (by omega)]; omega
  have hm : min (18 - 6 * j) IntKind.i64.bits = 18 - 6 * j := by rw [bits64]; omega
  have hX : X < 16777216 := by omega
  rw [w1, Int.toNat_natCast, Int.toNat_natCast, Int.toNat_natCast, hm, fdiv_pow, and63 (Nat.lt_of_le_of_lt (Nat.div_le_self _ _) hX)]
theorem gt_nat {i n : Int} (hi : 0 ≤ i) (hn : 0 ≤ n) : decide (i > n) = decide (i.toNat > n.toNat) := by
  by_cases h : i > n
  · rw [decide_eq_true h, decide_eq_true (by omega)]
  · rw [decide_eq_false h, decide_eq_false (by omega)]
def L77b : List AV → List (Option Row) → Tr LOut
  | [.own 1125899906842624, .ptr 1125899906842628 0, .int .i64 n, .int .i64 x, .ptr 640 0, .int .i64 i], [r0, r1, r2, r3, r4, r5, some (.box false [.int .u8 a0, .int .u8 a1, .int .u8 a2, .int .u8 a3])] => match stP [r0, r1, r2, r3, r4, r5] with
    | some _ => .gd (decide (0 ≤ i ∧ i ≤ 4 ∧ 0 ≤ n ∧ 0 ≤ x ∧ x < 16777216)) (.leaf (.exit 4, [.own 1125899906842624, .ptr 1125899906842628 0, .int .i64 n, .int .i64 x, .ptr 640 0, .int .i64 4], [r0, r1, r2, r3, r4, r5, some (.box false [.int .u8 (bif decide (i ≤ 0) then let4 x.toNat n.toNat 0 else a0), .int .u8 (bif decide (i ≤ 1) then let4 x.toNat n.toNat 1 else a1), .int .u8 (bif decide (i ≤ 2) then let4 x.toNat n.toNat 2 else a2), .int .u8 (bif decide (i ≤ 3) then let4 x.toNat n.toNat 3 else a3)])]))
    | none => .no
  | _, _ => .no
def l77b : Ev.Loop := ⟨{ len := 55, slots := [0, 1, 3, 4, 6, 30], rows := [1125899906842624, 1125899906842625, 1125899906842626, 1125899906842627, 1125899906842628, 901, 640] }, ofL L77b⟩
def μ77b (vs : List AV) (_ : List (Option Row)) : Nat := match vs with
  | [_, _, _, _, _, .int _ i] => (4 - i).toNat
  | _ => 0
theorem loop77b (K : List (Nat × Ev.Loop)) : LoopOK Tryz.prog G77 K d77 l77b := by
  refine loopT g77.natOK rfl (KOK.nil (by kernel_rfl)) μ77b (fun ρ vs rs k r h => ?_)
  unfold L77b at h
  split at h
  · rename_i n x i r0 r1 r2 r3 r4 r5 a0 a1 a2 a3
    split at h
    rotate_left
    · cases h
    rename_i t hst
    obtain ⟨bs, bs1, bl, bb, bs2, z0, z1, c, es, e5, out⟩ := t
    have hrs := stP_inv hst
    simp only [List.cons.injEq, and_true] at hrs
    obtain ⟨rfl, rfl, rfl, rfl, rfl, rfl⟩ := hrs
    clear hst
    obtain ⟨hc, hk⟩ := gd_some h
    obtain ⟨h0, h4, hn, hx0, hx1⟩ := of_decide_eq_true hc
    have hi64 : ∀ m : Nat, inb ((m % 64 : Nat) : Int) b64A.length = true := fun m => inb_true (by omega) (by have := Nat.mod_lt m (show 64 > 0 by decide); show _ < ((64 : Nat) : Int); omega)
    rcases (by omega : i = 0 ∨ i = 1 ∨ i = 2 ∨ i = 3 ∨ i = 4) with rfl | rfl | rfl | rfl | rfl
    · skip
      refine Eq.trans (b := have c80 := (Row.box false [AV.tup [AV.int IntKind.i64 1], AV.slv (Sh.int IntKind.u8) bs, AV.undef, AV.slz (Sh.int IntKind.u8), AV.ptr 1125899906842625 0, AV.ptr 1125899906842626 0, AV.ptr 1125899906842627 0, AV.undef, AV.slv (Sh.int IntKind.u8) bs1, AV.int IntKind.i64 bl, AV.bool bb, AV.undef, AV.slv (Sh.int IntKind.u8) bs2, AV.fn (77 : Nat) [AV.ptr 1125899906842628 0], AV.undef, AV.undef, AV.undef, AV.undef, AV.undef, AV.undef, AV.undef, AV.undef, AV.undef, AV.undef, AV.undef, AV.undef, AV.undef, AV.undef, AV.undef, AV.undef, AV.undef, AV.undef]); have c81 := (IntKind.i64.wrap (↑(BitVec.ofInt IntKind.i64.bits (x.fdiv ((2 : Int) ^ min (IntKind.i64.wrap ((18 : Int) - IntKind.i64.wrap ((6 : Int) * (0 : Int)))).toNat IntKind.i64.bits)) &&& BitVec.ofInt IntKind.i64.bits (63 : Int)).toNat : Int)); have c82 := [AV.own 1125899906842624, AV.ptr 1125899906842628 0, AV.int IntKind.i64 n, AV.int IntKind.i64 x, AV.ptr 640 0, AV.int IntKind.i64 4]; bif inb c81 b64A.length then bif decide ((0 : Int) > n) then bif decide ((0 : Int) ≤ IntKind.i64.wrap ((0 : Int) + (1 : Int)) ∧ IntKind.i64.wrap ((0 : Int) + (1 : Int)) ≤ (4 : Int) ∧ (0 : Int) ≤ n ∧ (0 : Int) ≤ x ∧ x < (16777216 : Int)) then k (Ex.exit (4 : Nat)) c82 [some c80, some (Row.box false [AV.int IntKind.i64 z0, AV.int IntKind.i64 z1]), some (Row.box false [AV.own 901]), some (Row.box false [AV.int IntKind.i64 c]), some (Row.box false [AV.slv (Sh.int IntKind.u8) es]), some (Row.arr false (Sh.int IntKind.u8) e5 out none), some (Row.box false [AV.int IntKind.u8 (bif decide (IntKind.i64.wrap ((0 : Int) + (1 : Int)) ≤ (0 : Int)) then let4 x.toNat n.toNat (0 : Nat) else (61 : Int)), AV.int IntKind.u8 (bif decide (IntKind.i64.wrap ((0 : Int) + (1 : Int)) ≤ (1 : Int)) then let4 x.toNat n.toNat (1 : Nat) else a1), AV.int IntKind.u8 (bif decide (IntKind.i64.wrap ((0 : Int) + (1 : Int)) ≤ (2 : Int)) then let4 x.toNat n.toNat (2 : Nat) else a2), AV.int IntKind.u8 (bif decide (IntKind.i64.wrap ((0 : Int) + (1 : Int)) ≤ (3 : Int)) then let4 x.toNat n.toNat (3 : Nat) else a3)])] else none else bif decide ((0 : Int) ≤ IntKind.i64.wrap ((0 : Int) + (1 : Int)) ∧ IntKind.i64.wrap ((0 : Int) + (1 : Int)) ≤ (4 : Int) ∧ (0 : Int) ≤ n ∧ (0 : Int) ≤ x ∧ x < (16777216 : Int)) then k (Ex.exit (4 : Nat)) c82 [some c80, some (Row.box false [AV.int IntKind.i64 z0, AV.int IntKind.i64 z1]), some (Row.box false [AV.own 901]), some (Row.box false [AV.int IntKind.i64 c]), some (Row.box false [AV.slv (Sh.int IntKind.u8) es]), some (Row.arr false (Sh.int IntKind.u8) e5 out none), some (Row.box false [AV.int IntKind.u8 (bif decide (IntKind.i64.wrap ((0 : Int) + (1 : Int)) ≤ (0 : Int)) then let4 x.toNat n.toNat (0 : Nat) else (↑(b64A.getD c81.toNat (0 : UInt8)).toNat : Int)), AV.int IntKind.u8 (bif decide (IntKind.i64.wrap ((0 : Int) + (1 : Int)) ≤ (1 : Int)) then let4 x.toNat n.toNat (1 : Nat) else a1), AV.int IntKind.u8 (bif decide (IntKind.i64.wrap ((0 : Int) + (1 : Int)) ≤ (2 : Int)) then let4 x.toNat n.toNat (2 : Nat) else a2), AV.int IntKind.u8 (bif decide (IntKind.i64.wrap ((0 : Int) + (1 : Int)) ≤ (3 : Int)) then let4 x.toNat n.toNat (3 : Nat) else a3)])] else none else none) (by kernel_rfl) ?_
      conv => zeta
      rw [← hk, lt_idx hx0 hx1 (i := 0) (by decide) (by decide), gt_nat (i := 0) (by decide) hn]
      have w : IntKind.i64.wrap (0 + 1) = 1 := by decide
      have hl : let4 x.toNat n.toNat 0 = bif decide ((0 : Int).toNat > n.toNat) then 61 else ((b64A.getD (((x.toNat / 2 ^ (18 - 6 * (0 : Int).toNat) % 64 : Nat) : Int).toNat) 0).toNat : Int) := rfl
      rw [w]
      refine Eq.trans (cond_t (hi64 _)) ?_
      cases hd : decide ((0 : Int).toNat > n.toNat)
      · rw [hd, cond_false] at hl
        refine Eq.trans (cond_f rfl) (Eq.trans (cond_t (decide_eq_true ⟨by omega, by omega, hn, hx0, hx1⟩)) ?_)
        rw [← hl]
        rfl
      · rw [hd, cond_true] at hl
        refine Eq.trans (cond_t rfl) (Eq.trans (cond_t (decide_eq_true ⟨by omega, by omega, hn, hx0, hx1⟩)) ?_)
        show _ = k (.exit 4) _ _
        simp only [hl]
        rfl
    · skip
      refine Eq.trans (b := have c80 := (Row.box false [AV.tup [AV.int IntKind.i64 1], AV.slv (Sh.int IntKind.u8) bs, AV.undef, AV.slz (Sh.int IntKind.u8), AV.ptr 1125899906842625 0, AV.ptr 1125899906842626 0, AV.ptr 1125899906842627 0, AV.undef, AV.slv (Sh.int IntKind.u8) bs1, AV.int IntKind.i64 bl, AV.bool bb, AV.undef, AV.slv (Sh.int IntKind.u8) bs2, AV.fn (77 : Nat) [AV.ptr 1125899906842628 0], AV.undef, AV.undef, AV.undef, AV.undef, AV.undef, AV.undef, AV.undef, AV.undef, AV.undef, AV.undef, AV.undef, AV.undef, AV.undef, AV.undef, AV.undef, AV.undef, AV.undef, AV.undef]); have c81 := (IntKind.i64.wrap (↑(BitVec.ofInt IntKind.i64.bits (x.fdiv ((2 : Int) ^ min (IntKind.i64.wrap ((18 : Int) - IntKind.i64.wrap ((6 : Int) * (1 : Int)))).toNat IntKind.i64.bits)) &&& BitVec.ofInt IntKind.i64.bits (63 : Int)).toNat : Int)); have c82 := [AV.own 1125899906842624, AV.ptr 1125899906842628 0, AV.int IntKind.i64 n, AV.int IntKind.i64 x, AV.ptr 640 0, AV.int IntKind.i64 4]; bif inb c81 b64A.length then bif decide ((1 : Int) > n) then bif decide ((0 : Int) ≤ IntKind.i64.wrap ((1 : Int) + (1 : Int)) ∧ IntKind.i64.wrap ((1 : Int) + (1 : Int)) ≤ (4 : Int) ∧ (0 : Int) ≤ n ∧ (0 : Int) ≤ x ∧ x < (16777216 : Int)) then k (Ex.exit (4 : Nat)) c82 [some c80, some (Row.box false [AV.int IntKind.i64 z0, AV.int IntKind.i64 z1]), some (Row.box false [AV.own 901]), some (Row.box false [AV.int IntKind.i64 c]), some (Row.box false [AV.slv (Sh.int IntKind.u8) es]), some (Row.arr false (Sh.int IntKind.u8) e5 out none), some (Row.box false [AV.int IntKind.u8 (bif decide (IntKind.i64.wrap ((1 : Int) + (1 : Int)) ≤ (0 : Int)) then let4 x.toNat n.toNat (0 : Nat) else a0), AV.int IntKind.u8 (bif decide (IntKind.i64.wrap ((1 : Int) + (1 : Int)) ≤ (1 : Int)) then let4 x.toNat n.toNat (1 : Nat) else (61 : Int)), AV.int IntKind.u8 (bif decide (IntKind.i64.wrap ((1 : Int) + (1 : Int)) ≤ (2 : Int)) then let4 x.toNat n.toNat (2 : Nat) else a2), AV.int IntKind.u8 (bif decide (IntKind.i64.wrap ((1 : Int) + (1 : Int)) ≤ (3 : Int)) then let4 x.toNat n.toNat (3 : Nat) else a3)])] else none else bif decide ((0 : Int) ≤ IntKind.i64.wrap ((1 : Int) + (1 : Int)) ∧ IntKind.i64.wrap ((1 : Int) + (1 : Int)) ≤ (4 : Int) ∧ (0 : Int) ≤ n ∧ (0 : Int) ≤ x ∧ x < (16777216 : Int)) then k (Ex.exit (4 : Nat)) c82 [some c80, some (Row.box false [AV.int IntKind.i64 z0, AV.int IntKind.i64 z1]), some (Row.box false [AV.own 901]), some (Row.box false [AV.int IntKind.i64 c]), some (Row.box false [AV.slv (Sh.int IntKind.u8) es]), some (Row.arr false (Sh.int IntKind.u8) e5 out none), some (Row.box false [AV.int IntKind.u8 (bif decide (IntKind.i64.wrap ((1 : Int) + (1 : Int)) ≤ (0 : Int)) then let4 x.toNat n.toNat (0 : Nat) else a0), AV.int IntKind.u8 (bif decide (IntKind.i64.wrap ((1 : Int) + (1 : Int)) ≤ (1 : Int)) then let4 x.toNat n.toNat (1 : Nat) else (↑(b64A.getD c81.toNat (0 : UInt8)).toNat : Int)), AV.int IntKind.u8 (bif decide (IntKind.i64.wrap ((1 : Int) + (1 : Int)) ≤ (2 : Int)) then let4 x.toNat n.toNat (2 : Nat) else a2), AV.int IntKind.u8 (bif decide (IntKind.i64.wrap ((1 : Int) + (1 : Int)) ≤ (3 : Int)) then let4 x.toNat n.toNat (3 : Nat) else a3)])] else none else none) (by kernel_rfl) ?_
      conv => zeta
      rw [← hk, lt_idx hx0 hx1 (i := 1) (by decide) (by decide), gt_nat (i := 1) (by decide) hn]
      have w : IntKind.i64.wrap (1 + 1) = 2 := by decide
      have hl : let4 x.toNat n.toNat 1 = bif decide ((1 : Int).toNat > n.toNat) then 61 else ((b64A.getD (((x.toNat / 2 ^ (18 - 6 * (1 : Int).toNat) % 64 : Nat) : Int).toNat) 0).toNat : Int) := rfl
      rw [w]
      refine Eq.trans (cond_t (hi64 _)) ?_
      cases hd : decide ((1 : Int).toNat > n.toNat)
      · rw [hd, cond_false] at hl
        refine Eq.trans (cond_f rfl) (Eq.trans (cond_t (decide_eq_true ⟨by omega, by omega, hn, hx0, hx1⟩)) ?_)
        rw [← hl]
        rfl
      · rw [hd, cond_true] at hl
        refine Eq.trans (cond_t rfl) (Eq.trans (cond_t (decide_eq_true ⟨by omega, by omega, hn, hx0, hx1⟩)) ?_)
        show _ = k (.exit 4) _ _
        simp only [hl]
        rfl
    · skip
      refine Eq.trans (b := have c80 := (Row.box false [AV.tup [AV.int IntKind.i64 1], AV.slv (Sh.int IntKind.u8) bs, AV.undef, AV.slz (Sh.int IntKind.u8), AV.ptr 1125899906842625 0, AV.ptr 1125899906842626 0, AV.ptr 1125899906842627 0, AV.undef, AV.slv (Sh.int IntKind.u8) bs1, AV.int IntKind.i64 bl, AV.bool bb, AV.undef, AV.slv (Sh.int IntKind.u8) bs2, AV.fn (77 : Nat) [AV.ptr 1125899906842628 0], AV.undef, AV.undef, AV.undef, AV.undef, AV.undef, AV.undef, AV.undef, AV.undef, AV.undef, AV.undef, AV.undef, AV.undef, AV.undef, AV.undef, AV.undef, AV.undef, AV.undef, AV.undef]); have c81 := (IntKind.i64.wrap (↑(BitVec.ofInt IntKind.i64.bits (x.fdiv ((2 : Int) ^ min (IntKind.i64.wrap ((18 : Int) - IntKind.i64.wrap ((6 : Int) * (2 : Int)))).toNat IntKind.i64.bits)) &&& BitVec.ofInt IntKind.i64.bits (63 : Int)).toNat : Int)); have c82 := [AV.own 1125899906842624, AV.ptr 1125899906842628 0, AV.int IntKind.i64 n, AV.int IntKind.i64 x, AV.ptr 640 0, AV.int IntKind.i64 4]; bif inb c81 b64A.length then bif decide ((2 : Int) > n) then bif decide ((0 : Int) ≤ IntKind.i64.wrap ((2 : Int) + (1 : Int)) ∧ IntKind.i64.wrap ((2 : Int) + (1 : Int)) ≤ (4 : Int) ∧ (0 : Int) ≤ n ∧ (0 : Int) ≤ x ∧ x < (16777216 : Int)) then k (Ex.exit (4 : Nat)) c82 [some c80, some (Row.box false [AV.int IntKind.i64 z0, AV.int IntKind.i64 z1]), some (Row.box false [AV.own 901]), some (Row.box false [AV.int IntKind.i64 c]), some (Row.box false [AV.slv (Sh.int IntKind.u8) es]), some (Row.arr false (Sh.int IntKind.u8) e5 out none), some (Row.box false [AV.int IntKind.u8 (bif decide (IntKind.i64.wrap ((2 : Int) + (1 : Int)) ≤ (0 : Int)) then let4 x.toNat n.toNat (0 : Nat) else a0), AV.int IntKind.u8 (bif decide (IntKind.i64.wrap ((2 : Int) + (1 : Int)) ≤ (1 : Int)) then let4 x.toNat n.toNat (1 : Nat) else a1), AV.int IntKind.u8 (bif decide (IntKind.i64.wrap ((2 : Int) + (1 : Int)) ≤ (2 : Int)) then let4 x.toNat n.toNat (2 : Nat) else (61 : Int)), AV.int IntKind.u8 (bif decide (IntKind.i64.wrap ((2 : Int) + (1 : Int)) ≤ (3 : Int)) then let4 x.toNat n.toNat (3 : Nat) else a3)])] else none else bif decide ((0 : Int) ≤ IntKind.i64.wrap ((2 : Int) + (1 : Int)) ∧ IntKind.i64.wrap ((2 : Int) + (1 : Int)) ≤ (4 : Int) ∧ (0 : Int) ≤ n ∧ (0 : Int) ≤ x ∧ x < (16777216 : Int)) then k (Ex.exit (4 : Nat)) c82 [some c80, some (Row.box false [AV.int IntKind.i64 z0, AV.int IntKind.i64 z1]), some (Row.box false [AV.own 901]), some (Row.box false [AV.int IntKind.i64 c]), some (Row.box false [AV.slv (Sh.int IntKind.u8) es]), some (Row.arr false (Sh.int IntKind.u8) e5 out none), some (Row.box false [AV.int IntKind.u8 (bif decide (IntKind.i64.wrap ((2 : Int) + (1 : Int)) ≤ (0 : Int)) then let4 x.toNat n.toNat (0 : Nat) else a0), AV.int IntKind.u8 (bif decide (IntKind.i64.wrap ((2 : Int) + (1 : Int)) ≤ (1 : Int)) then let4 x.toNat n.toNat (1 : Nat) else a1), AV.int IntKind.u8 (bif decide (IntKind.i64.wrap ((2 : Int) + (1 : Int)) ≤ (2 : Int)) then let4 x.toNat n.toNat (2 : Nat) else (↑(b64A.getD c81.toNat (0 : UInt8)).toNat : Int)), AV.int IntKind.u8 (bif decide (IntKind.i64.wrap ((2 : Int) + (1 : Int)) ≤ (3 : Int)) then let4 x.toNat n.toNat (3 : Nat) else a3)])] else none else none) (by kernel_rfl) ?_
      conv => zeta
      rw [← hk, lt_idx hx0 hx1 (i := 2) (by decide) (by decide), gt_nat (i := 2) (by decide) hn]
      have w : IntKind.i64.wrap (2 + 1) = 3 := by decide
      have hl : let4 x.toNat n.toNat 2 = bif decide ((2 : Int).toNat > n.toNat) then 61 else ((b64A.getD (((x.toNat / 2 ^ (18 - 6 * (2 : Int).toNat) % 64 : Nat) : Int).toNat) 0).toNat : Int) := rfl
      rw [w]
      refine Eq.trans (cond_t (hi64 _)) ?_
      cases hd : decide ((2 : Int).toNat > n.toNat)
      · rw [hd, cond_false] at hl
        refine Eq.trans (cond_f rfl) (Eq.trans (cond_t (decide_eq_true ⟨by omega, by omega, hn, hx0, hx1⟩)) ?_)
        rw [← hl]
        rfl
      · rw [hd, cond_true] at hl
        refine Eq.trans (cond_t rfl) (Eq.trans (cond_t (decide_eq_true ⟨by omega, by omega, hn, hx0, hx1⟩)) ?_)
        show _ = k (.exit 4) _ _
        simp only [hl]
        rfl
    · skip
      refine Eq.trans (b := have c80 := (Row.box false [AV.tup [AV.int IntKind.i64 1], AV.slv (Sh.int IntKind.u8) bs, AV.undef, AV.slz (Sh.int IntKind.u8), AV.ptr 1125899906842625 0, AV.ptr 1125899906842626 0, AV.ptr 1125899906842627 0, AV.undef, AV.slv (Sh.int IntKind.u8) bs1, AV.int IntKind.i64 bl, AV.bool bb, AV.undef, AV.slv (Sh.int IntKind.u8) bs2, AV.fn (77 : Nat) [AV.ptr 1125899906842628 0], AV.undef, AV.undef, AV.undef, AV.undef, AV.undef, AV.undef, AV.undef, AV.undef, AV.undef, AV.undef, AV.undef, AV.undef, AV.undef, AV.undef, AV.undef, AV.undef, AV.undef, AV.undef]); have c81 := (IntKind.i64.wrap (↑(BitVec.ofInt IntKind.i64.bits (x.fdiv ((2 : Int) ^ min (IntKind.i64.wrap ((18 : Int) - IntKind.i64.wrap ((6 : Int) * (3 : Int)))).toNat IntKind.i64.bits)) &&& BitVec.ofInt IntKind.i64.bits (63 : Int)).toNat : Int)); have c82 := [AV.own 1125899906842624, AV.ptr 1125899906842628 0, AV.int IntKind.i64 n, AV.int IntKind.i64 x, AV.ptr 640 0, AV.int IntKind.i64 4]; bif inb c81 b64A.length then bif decide ((3 : Int) > n) then bif decide ((0 : Int) ≤ IntKind.i64.wrap ((3 : Int) + (1 : Int)) ∧ IntKind.i64.wrap ((3 : Int) + (1 : Int)) ≤ (4 : Int) ∧ (0 : Int) ≤ n ∧ (0 : Int) ≤ x ∧ x < (16777216 : Int)) then k (Ex.exit (4 : Nat)) c82 [some c80, some (Row.box false [AV.int IntKind.i64 z0, AV.int IntKind.i64 z1]), some (Row.box false [AV.own 901]), some (Row.box false [AV.int IntKind.i64 c]), some (Row.box false [AV.slv (Sh.int IntKind.u8) es]), some (Row.arr false (Sh.int IntKind.u8) e5 out none), some (Row.box false [AV.int IntKind.u8 (bif decide (IntKind.i64.wrap ((3 : Int) + (1 : Int)) ≤ (0 : Int)) then let4 x.toNat n.toNat (0 : Nat) else a0), AV.int IntKind.u8 (bif decide (IntKind.i64.wrap ((3 : Int) + (1 : Int)) ≤ (1 : Int)) then let4 x.toNat n.toNat (1 : Nat) else a1), AV.int IntKind.u8 (bif decide (IntKind.i64.wrap ((3 : Int) + (1 : Int)) ≤ (2 : Int)) then let4 x.toNat n.toNat (2 : Nat) else a2), AV.int IntKind.u8 (bif decide (IntKind.i64.wrap ((3 : Int) + (1 : Int)) ≤ (3 : Int)) then let4 x.toNat n.toNat (3 : Nat) else (61 : Int))])] else none else bif decide ((0 : Int) ≤ IntKind.i64.wrap ((3 : Int) + (1 : Int)) ∧ IntKind.i64.wrap ((3 : Int) + (1 : Int)) ≤ (4 : Int) ∧ (0 : Int) ≤ n ∧ (0 : Int) ≤ x ∧ x < (16777216 : Int)) then k (Ex.exit (4 : Nat)) c82 [some c80, some (Row.box false [AV.int IntKind.i64 z0, AV.int IntKind.i64 z1]), some (Row.box false [AV.own 901]), some (Row.box false [AV.int IntKind.i64 c]), some (Row.box false [AV.slv (Sh.int IntKind.u8) es]), some (Row.arr false (Sh.int IntKind.u8) e5 out none), some (Row.box false [AV.int IntKind.u8 (bif decide (IntKind.i64.wrap ((3 : Int) + (1 : Int)) ≤ (0 : Int)) then let4 x.toNat n.toNat (0 : Nat) else a0), AV.int IntKind.u8 (bif decide (IntKind.i64.wrap ((3 : Int) + (1 : Int)) ≤ (1 : Int)) then let4 x.toNat n.toNat (1 : Nat) else a1), AV.int IntKind.u8 (bif decide (IntKind.i64.wrap ((3 : Int) + (1 : Int)) ≤ (2 : Int)) then let4 x.toNat n.toNat (2 : Nat) else a2), AV.int IntKind.u8 (bif decide (IntKind.i64.wrap ((3 : Int) + (1 : Int)) ≤ (3 : Int)) then let4 x.toNat n.toNat (3 : Nat) else (↑(b64A.getD c81.toNat (0 : UInt8)).toNat : Int))])] else none else none) (by kernel_rfl) ?_
      conv => zeta
      rw [← hk, lt_idx hx0 hx1 (i := 3) (by decide) (by decide), gt_nat (i := 3) (by decide) hn]
      have w : IntKind.i64.wrap (3 + 1) = 4 := by decide
      have hl : let4 x.toNat n.toNat 3 = bif decide ((3 : Int).toNat > n.toNat) then 61 else ((b64A.getD (((x.toNat / 2 ^ (18 - 6 * (3 : Int).toNat) % 64 : Nat) : Int).toNat) 0).toNat : Int) := rfl
      rw [w]
      refine Eq.trans (cond_t (hi64 _)) ?_
      cases hd : decide ((3 : Int).toNat > n.toNat)
      · rw [hd, cond_false] at hl
        refine Eq.trans (cond_f rfl) (Eq.trans (cond_t (decide_eq_true ⟨by omega, by omega, hn, hx0, hx1⟩)) ?_)
        rw [← hl]
        rfl
      · rw [hd, cond_true] at hl
        refine Eq.trans (cond_t rfl) (Eq.trans (cond_t (decide_eq_true ⟨by omega, by omega, hn, hx0, hx1⟩)) ?_)
        show _ = k (.exit 4) _ _
        simp only [hl]
        rfl
    · skip
      refine Eq.trans (b := k (Ex.exit (4 : Nat)) [AV.own 1125899906842624, AV.ptr 1125899906842628 0, AV.int IntKind.i64 n, AV.int IntKind.i64 x, AV.ptr 640 0, AV.int IntKind.i64 4] [some (Row.box false [AV.tup [AV.int IntKind.i64 1], AV.slv (Sh.int IntKind.u8) bs, AV.undef, AV.slz (Sh.int IntKind.u8), AV.ptr 1125899906842625 0, AV.ptr 1125899906842626 0, AV.ptr 1125899906842627 0, AV.undef, AV.slv (Sh.int IntKind.u8) bs1, AV.int IntKind.i64 bl, AV.bool bb, AV.undef, AV.slv (Sh.int IntKind.u8) bs2, AV.fn (77 : Nat) [AV.ptr 1125899906842628 0], AV.undef, AV.undef, AV.undef, AV.undef, AV.undef, AV.undef, AV.undef, AV.undef, AV.undef, AV.undef, AV.undef, AV.undef, AV.undef, AV.undef, AV.undef, AV.undef, AV.undef, AV.undef]), some (Row.box false [AV.int IntKind.i64 z0, AV.int IntKind.i64 z1]), some (Row.box false [AV.own 901]), some (Row.box false [AV.int IntKind.i64 c]), some (Row.box false [AV.slv (Sh.int IntKind.u8) es]), some (Row.arr false (Sh.int IntKind.u8) e5 out none), some (Row.box false [AV.int IntKind.u8 a0, AV.int IntKind.u8 a1, AV.int IntKind.u8 a2, AV.int IntKind.u8 a3])]) (by kernel_rfl) ?_
      rw [← hk]
      rfl
  · cases h
theorem xIt_three {es : List AV} (N : Nat) : xIt es N 3 0 0 = ((bif decide (0 < N) then nE (es.getD 0 .unk) else 0) * 256 + bif decide (1 < N) then nE (es.getD 1 .unk) else 0) * 256 + bif decide (2 < N) then nE (es.getD 2 .unk) else 0 := by
  show ((0 * 256 + bif decide (0 < N) then nE (es.getD 0 .unk) else 0) * 256 + bif decide (1 < N) then nE (es.getD 1 .unk) else 0) * 256 + (bif decide (2 < N) then nE (es.getD 2 .unk) else 0) = _
  rw [Nat.zero_mul, Nat.zero_add]
theorem let4_g4 : ∀ es : List AV, 0 < es.length → [AV.int .u8 (let4 (xIt es (min 3 es.length) 3 0 0) (min 3 es.length) 0), .int .u8 (let4 (xIt es (min 3 es.length) 3 0 0) (min 3 es.length) 1), .int .u8 (let4 (xIt es (min 3 es.length) 3 0 0) (min 3 es.length) 2), .int .u8 (let4 (xIt es (min 3 es.length) 3 0 0) (min 3 es.length) 3)] = g4 es
  | [], h => absurd h (Nat.lt_irrefl _)
  | [a], _ => by
    have hx : xIt [a] 1 3 0 0 = nE a * 65536 := by rw [xIt_three]; show (nE a * 256 + 0) * 256 + 0 = _; omega
    show [AV.int .u8 (let4 (xIt [a] 1 3 0 0) 1 0), .int .u8 (let4 (xIt [a] 1 3 0 0) 1 1), .int .u8 (let4 (xIt [a] 1 3 0 0) 1 2), .int .u8 (let4 (xIt [a] 1 3 0 0) 1 3)] = _
    rw [hx]
    rfl
  | [a, b], _ => by
    have hx : xIt [a, b] 2 3 0 0 = nE a * 65536 + nE b * 256 := by rw [xIt_three]; show (nE a * 256 + nE b) * 256 + 0 = _; omega
    show [AV.int .u8 (let4 (xIt [a, b] 2 3 0 0) 2 0), .int .u8 (let4 (xIt [a, b] 2 3 0 0) 2 1), .int .u8 (let4 (xIt [a, b] 2 3 0 0) 2 2), .int .u8 (let4 (xIt [a, b] 2 3 0 0) 2 3)] = _
    rw [hx]
    rfl
  | a :: b :: c :: l, _ => by
    have hm : min 3 (a :: b :: c :: l).length = 3 := by simp only [List.length_cons]; omega
    have hx : xIt (a :: b :: c :: l) 3 3 0 0 = nE a * 65536 + nE b * 256 + nE c := by rw [xIt_three]; show (nE a * 256 + nE b) * 256 + nE c = _; omega
    rw [hm, hx]
    unfold g4 let4 b64C
    rw [show 2 ^ (18 - 6 * 3) = 1 from rfl, Nat.div_one]
    rfl
theorem xIt_lt {es : List AV} (h : es.all bE = true) {N : Nat} (hN : N ≤ es.length) : xIt es N 3 0 0 < 16777216 := by
  have q : ∀ i : Nat, (bif decide (i < N) then nE (es.getD i .unk) else 0) < 256 := fun i => by
    by_cases hi : i < N
    · rw [decide_eq_true hi]; exact (nE_at h (by omega)).2
    · rw [decide_eq_false hi]; exact (by decide : 0 < 256)
  have q0 := q 0
  have q1 := q 1
  have q2 := q 2
  rw [xIt_three]
  omega
def L77 : List AV → List (Option Row) → Tr LOut
  | [.own 1125899906842624, .ptr 1125899906842628 0], [r0, r1, r2, some (.box false [.int .i64 c]), some (.box false [.slv (.int .u8) es]), some (.arr false (.int .u8) e5 out none)] => match stP [r0, r1, r2, some (.box false [.int .i64 c]), some (.box false [.slv (.int .u8) es]), some (.arr false (.int .u8) e5 out none)] with
    | some _ => .gd (decide (e5 = 5 ∧ 0 ≤ c ∧ c ≤ 76 ∧ c % 4 = 0 ∧ out.length + 6 * es.length ≤ 1000000) && es.all bE)
      (.leaf (.exit 0, [.own 1125899906842624, .ptr 1125899906842628 0], [r0, r1, r2, some (.box false [.int .i64 (eL es.length es (out, c)).2]), some (.box false [.slv (.int .u8) []]), some (.arr false (.int .u8) e5 (eL es.length es (out, c)).1 none)]))
    | none => .no
  | _, _ => .no
def l77 : Ev.Loop := ⟨{ len := 55, slots := [0, 1], rows := [1125899906842624, 1125899906842625, 1125899906842626, 1125899906842627, 1125899906842628, 901], cells := [(1125899906842626, 0, 901, 5)] }, ofL L77⟩
def μ77 (_ : List AV) (rs : List (Option Row)) : Nat := match rs with
  | [_, _, _, _, some (.box _ [.slv _ cs]), _] => cs.length
  | _ => 0
theorem loop77 : LoopOK Tryz.prog G77 [(0, l77), (4, l77a), (12, l77b)] b77 l77 := by
  refine loopT g77.natOK rfl (KOK.all (bs := [c77, d77]) (by kernel_rfl) (fun b hb => ?_)) μ77 (fun ρ vs rs k r h => ?_)
  · rcases List.mem_cons.1 hb with rfl | hb
    · exact ⟨l77a, by kernel_rfl, loop77a _⟩
    · rcases List.mem_cons.1 hb with rfl | hb
      · exact ⟨l77b, by kernel_rfl, loop77b _⟩
      · cases hb
  unfold L77 at h
  split at h
  · rename_i r0 r1 r2 c es e5 out
    split at h
    rotate_left
    · cases h
    rename_i t hst
    obtain ⟨bs, bs1, bl, bb, bs2, z0, z1, c', es', e5', out'⟩ := t
    have hrs := stP_inv hst
    simp only [List.cons.injEq, and_true, Option.some.injEq, Row.box.injEq, Row.arr.injEq, true_and, AV.int.injEq, AV.slv.injEq] at hrs
    obtain ⟨rfl, rfl, rfl, rfl, rfl, rfl, rfl⟩ := hrs
    clear hst
    obtain ⟨hc, hk⟩ := gd_some h
    obtain ⟨hc, hall⟩ := (Bool.and_eq_true _ _).mp hc
    obtain ⟨rfl, h1, h2, h44, h3⟩ := of_decide_eq_true hc
    refine Eq.trans (b := have c80 := (if (↑es.length : Int) < (3 : Int) then (↑es.length : Int) else (3 : Int)); have c81 := [AV.int IntKind.u8 (bif decide ((0 : Int) ≤ (0 : Int)) then let4 (↑(xIt es c80.toNat ((3 : Nat) - Int.toNat (0 : Int)) (0 : Nat) (0 : Nat)) : Int).toNat c80.toNat (0 : Nat) else (0 : Int)), AV.int IntKind.u8 (bif decide ((0 : Int) ≤ (1 : Int)) then let4 (↑(xIt es c80.toNat ((3 : Nat) - Int.toNat (0 : Int)) (0 : Nat) (0 : Nat)) : Int).toNat c80.toNat (1 : Nat) else (0 : Int)), AV.int IntKind.u8 (bif decide ((0 : Int) ≤ (2 : Int)) then let4 (↑(xIt es c80.toNat ((3 : Nat) - Int.toNat (0 : Int)) (0 : Nat) (0 : Nat)) : Int).toNat c80.toNat (2 : Nat) else (0 : Int)), AV.int IntKind.u8 (bif decide ((0 : Int) ≤ (3 : Int)) then let4 (↑(xIt es c80.toNat ((3 : Nat) - Int.toNat (0 : Int)) (0 : Nat) (0 : Nat)) : Int).toNat c80.toNat (3 : Nat) else (0 : Int))]; have c82 := (Row.box false [AV.tup [AV.int IntKind.i64 1], AV.slv (Sh.int IntKind.u8) bs, AV.undef, AV.slz (Sh.int IntKind.u8), AV.ptr 1125899906842625 0, AV.ptr 1125899906842626 0, AV.ptr 1125899906842627 0, AV.undef, AV.slv (Sh.int IntKind.u8) bs1, AV.int IntKind.i64 bl, AV.bool bb, AV.undef, AV.slv (Sh.int IntKind.u8) bs2, AV.fn (77 : Nat) [AV.ptr 1125899906842628 0], AV.undef, AV.undef, AV.undef, AV.undef, AV.undef, AV.undef, AV.undef, AV.undef, AV.undef, AV.undef, AV.undef, AV.undef, AV.undef, AV.undef, AV.undef, AV.undef, AV.undef, AV.undef]); have c83 := (List.take ((↑es.length : Int).toNat - c80.toNat) (List.drop c80.toNat es)); bif decide ((↑es.length : Int) > (0 : Int)) then bif decide ((0 : Int) ≤ (0 : Int) ∧ (0 : Int) ≤ (3 : Int) ∧ c80 ≤ (↑es.length : Int) ∧ ((0 : Int) ≤ if (↑es.length : Int) < (3 : Int) then (↑es.length : Int) else (3 : Int)) ∧ c80 ≤ (3 : Int) ∧ (0 : Int) ≤ (0 : Int) ∧ Int.toNat (0 : Int) < (256 : Nat) ^ Int.toNat (0 : Int)) && es.all bE then bif decide ((0 : Int) ≤ (0 : Int) ∧ (0 : Int) ≤ (4 : Int) ∧ ((0 : Int) ≤ if (↑es.length : Int) < (3 : Int) then (↑es.length : Int) else (3 : Int)) ∧ (0 : Int) ≤ (↑(xIt es c80.toNat ((3 : Nat) - Int.toNat (0 : Int)) (0 : Nat) (0 : Nat)) : Int) ∧ (↑(xIt es c80.toNat ((3 : Nat) - Int.toNat (0 : Int)) (0 : Nat) (0 : Nat)) : Int) < (16777216 : Int)) then bif (fun x => PID + x) (0 : Nat) == PID && decide ((5 : TypeId) = (5 : TypeId) ∧ out.length ≤ (1000000 : Nat) ∧ (0 : Int) ≤ c ∧ c ≤ (76 : Int)) then bif slb c80 (↑es.length : Int) es.length then bif decide (c83.length < es.length) then bif decide ((5 : TypeId) = (5 : TypeId) ∧ (0 : Int) ≤ col4 c ∧ col4 c ≤ (76 : Int) ∧ col4 c % (4 : Int) = (0 : Int) ∧ (out ++ pre4 c ++ c81).length + (6 : Nat) * c83.length ≤ (1000000 : Nat)) && c83.all bE then k (Ex.exit (0 : Nat)) [AV.own 1125899906842624, AV.ptr 1125899906842628 0] [some c82, some (Row.box false [AV.int IntKind.i64 z0, AV.int IntKind.i64 z1]), some (Row.box false [AV.own 901]), some (Row.box false [AV.int IntKind.i64 (eL c83.length c83 (out ++ pre4 c ++ c81, col4 c)).snd]), some (Row.box false [AV.slv (Sh.int IntKind.u8) []]), some (Row.arr false (Sh.int IntKind.u8) (5 : Nat) (eL c83.length c83 (out ++ pre4 c ++ c81, col4 c)).fst none)] else none else none else none else none else none else none else k (Ex.exit (0 : Nat)) [AV.own 1125899906842624, AV.ptr 1125899906842628 0] [some c82, some (Row.box false [AV.int IntKind.i64 z0, AV.int IntKind.i64 z1]), some (Row.box false [AV.own 901]), some (Row.box false [AV.int IntKind.i64 c]), some (Row.box false [AV.slv (Sh.int IntKind.u8) es]), some (Row.arr false (Sh.int IntKind.u8) (5 : Nat) out none)]) (by kernel_rfl) ?_
    conv => zeta
    rw [← hk]
    by_cases hlt : 0 < es.length
    · have hn : (if (es.length : Int) < 3 then (es.length : Int) else 3) = ((min 3 es.length : Nat) : Int) := by split <;> omega
      have hN : min 3 es.length ≤ es.length := Nat.min_le_right _ _
      have hx := xIt_lt hall hN
      have hg := let4_g4 es hlt
      have h30 : 3 - Int.toNat 0 = 3 := rfl
      rw [hn]
      simp only [Int.toNat_natCast, h30]
      have hX8 : [AV.int .u8 (bif decide ((0 : Int) ≤ 0) then let4 (xIt es (min 3 es.length) 3 0 0) (min 3 es.length) 0 else 0), .int .u8 (bif decide ((0 : Int) ≤ 1) then let4 (xIt es (min 3 es.length) 3 0 0) (min 3 es.length) 1 else 0), .int .u8 (bif decide ((0 : Int) ≤ 2) then let4 (xIt es (min 3 es.length) 3 0 0) (min 3 es.length) 2 else 0), .int .u8 (bif decide ((0 : Int) ≤ 3) then let4 (xIt es (min 3 es.length) 3 0 0) (min 3 es.length) 3 else 0)] = g4 es := hg
      rw [hX8]
      have hd : List.take (es.length - min 3 es.length) (List.drop (min 3 es.length) es) = es.drop 3 := by
        rw [List.take_of_length_le (by rw [List.length_drop]; omega)]
        by_cases h3 : 3 ≤ es.length
        · rw [Nat.min_eq_left h3]
        · rw [Nat.min_eq_right (by omega), List.drop_length, List.drop_of_length_le (by omega)]
      simp only [hd]
      have hdl : (es.drop 3).length = es.length - 3 := List.length_drop
      have hgl := g4_len es
      have hpl : (pre4 c).length ≤ 2 := by unfold pre4; cases c == 76 <;> simp
      have hc4 : 0 ≤ col4 c ∧ col4 c ≤ 76 ∧ col4 c % 4 = 0 := by
        unfold col4
        cases hc : c == 76
        · have : c ≠ 76 := fun e => by rw [e] at hc; cases hc
          rw [cond_false]
          omega
        · rw [cond_true]; omega
      have hall' : (es.drop 3).all bE = true := all_drop hall 3
      rw [eL_fuel es.length (es.length - 1 + 1) es _ (Nat.le_refl _) (by omega), eL_step, decide_eq_true hlt, cond_true, eL_fuel (es.length - 1) (es.drop 3).length _ _ (by omega) (Nat.le_refl _)]
      refine Eq.trans (cond_t (decide_eq_true (by omega))) (Eq.trans (cond_t (and_t (decide_eq_true ⟨by omega, by omega, by omega, by omega, by omega, by omega, by decide⟩) hall)) (Eq.trans (cond_t (decide_eq_true ⟨by omega, by omega, by omega, by omega, by omega⟩)) (Eq.trans (cond_t (and_t (beq_self_eq_true _) (decide_eq_true ⟨trivial, by omega, h1, h2⟩))) (Eq.trans (cond_t (slb_true (by omega) (by omega) (by omega))) (Eq.trans (cond_t (decide_eq_true (by omega))) (Eq.trans (cond_t (and_t (decide_eq_true ⟨trivial, hc4.1, hc4.2.1, hc4.2.2, by rw [List.length_append, List.length_append]; omega⟩) hall')) ?_))))))
      rfl
    · obtain rfl : es = [] := List.eq_nil_of_length_eq_zero (by omega)
      rfl
  · cases h
theorem eL_inv : ∀ (f : Nat) (es out : List AV) (c : Int), 0 ≤ c ∧ c ≤ 76 → c % 4 = 0 → (eL f es (out, c)).1.length ≤ out.length + 6 * es.length ∧ 0 ≤ (eL f es (out, c)).2 ∧ (eL f es (out, c)).2 ≤ 76
  | 0, es, out, c, hc, _ => ⟨by show out.length ≤ _; omega, hc⟩
  | f + 1, es, out, c, hc, h4 => by
    rw [eL_step]
    by_cases h : 0 < es.length
    · rw [decide_eq_true h, cond_true]
      have hgl := g4_len es
      have hpl : (pre4 c).length ≤ 2 := by unfold pre4; cases c == 76 <;> simp
      have hdl : (es.drop 3).length = es.length - 3 := List.length_drop
      have hc4 : (0 ≤ col4 c ∧ col4 c ≤ 76) ∧ col4 c % 4 = 0 := by
        unfold col4
        cases hc' : c == 76
        · have : c ≠ 76 := fun e => by rw [e] at hc'; cases hc'
          rw [cond_false]
          omega
        · rw [cond_true]; omega
      obtain ⟨i1, i2⟩ := eL_inv f (es.drop 3) (out ++ pre4 c ++ g4 es) (col4 c) hc4.1 hc4.2
      rw [List.length_append, List.length_append] at i1
      exact ⟨by show (eL f (es.drop 3) (out ++ pre4 c ++ g4 es, col4 c)).1.length ≤ _; omega, i2⟩
    · rw [decide_eq_false h]
      exact ⟨by show out.length ≤ _; omega, hc⟩
def F77 : List AV → List Row → Tr XOut
  | [.own 1125899906842624, .ptr 1125899906842628 0], [.box false [.tup [.int .i64 1], .slv (.int .u8) bs, .undef, .slz (.int .u8), .ptr 1125899906842625 0, .ptr 1125899906842626 0, .ptr 1125899906842627 0, .undef, .slv (.int .u8) bs1, .int .i64 bl, .bool bb, .undef, .slv (.int .u8) bs2, .fn 77 [.ptr 1125899906842628 0], .undef, .undef, .undef, .undef, .undef, .undef, .undef, .undef, .undef, .undef, .undef, .undef, .undef, .undef, .undef, .undef, .undef, .undef], .box false [.int .i64 z0, .int .i64 z1], .box false [.slz (.int .u8)], .box false [.int .i64 0], .box false [.slv (.int .u8) es]] =>
    .gd (decide (es.length ≤ 20000) && es.all bE) (.leaf (.tup [], [some (.box false [.tup [.int .i64 1], .slv (.int .u8) bs, .undef, .slz (.int .u8), .ptr 1125899906842625 0, .ptr 1125899906842626 0, .ptr 1125899906842627 0, .undef, .slv (.int .u8) bs1, .int .i64 bl, .bool bb, .undef, .slv (.int .u8) bs2, .fn 77 [.ptr 1125899906842628 0], .undef, .undef, .undef, .undef, .undef, .undef, .undef, .undef, .undef, .undef, .undef, .undef, .undef, .undef, .undef, .undef, .undef, .undef]), some (.box false [.int .i64 z0, .int .i64 z1]), some (.box false [.own RID]), some (.box false [.int .i64 (e17 es).2]), some (.box false [.slv (.int .u8) []])], [.arr false (.int .u8) 5 (e17 es).1 none]))
  | _, _ => .no
theorem ok77 : XOK Tryz.prog 77 (ofX F77) ∧ XNat (ofX F77) := by
  refine ⟨xsums (K := [(0, l77), (4, l77a), (12, l77b)]) (H := []) (bs := [b77, c77, d77]) g77 Tryz.func77 (by kernel_rfl) (fun b hb => ?_) fun ρ avs rows k r h => ?_, xnat_ofX _⟩
  · rcases List.mem_cons.1 hb with rfl | hb
    · exact ⟨l77, by kernel_rfl, loop77⟩
    · rcases List.mem_cons.1 hb with rfl | hb
      · exact ⟨l77a, by kernel_rfl, loop77a _⟩
      · rcases List.mem_cons.1 hb with rfl | hb
        · exact ⟨l77b, by kernel_rfl, loop77b _⟩
        · cases hb
  change (F77 avs rows).run _ = some r at h
  unfold F77 at h
  split at h
  · rename_i bs bs1 bl bb bs2 z0 z1 es
    obtain ⟨hc, hk⟩ := gd_some h
    simp only [Bool.and_eq_true] at hc
    obtain ⟨hc, hall⟩ := hc
    have hcs : es.length ≤ 20000 := of_decide_eq_true hc
    refine ⟨by simp, fun rows' hsp => ?_⟩
    obtain rfl : rows' = [.box false [.tup [.int .i64 1], .slv (.int .u8) bs, .undef, .slz (.int .u8), .ptr 1125899906842625 0, .ptr 1125899906842626 0, .ptr 1125899906842627 0, .undef, .slv (.int .u8) bs1, .int .i64 bl, .bool bb, .undef, .slv (.int .u8) bs2, .fn 77 [.ptr 1125899906842628 0], .undef, .undef, .undef, .undef, .undef, .undef, .undef, .undef, .undef, .undef, .undef, .undef, .undef, .undef, .undef, .undef, .undef, .undef], .box false [.int .i64 z0, .int .i64 z1], .box false [.slz (.int .u8)], .box false [.int .i64 0], .box false [.slv (.int .u8) es]] := by
      match rows', hsp with
      | [r1, r2, r3, r4, r5], ⟨h1, h2, h3, h4, h5, _⟩ => rw [h1, h2, h3, h4, h5]
    refine Eq.trans (b := bif decide (((1125899906842626 : Nat), (0 : Nat), (901 : Nat), (5 : TypeId)).snd.snd.snd = (5 : TypeId) ∧ (0 : Int) ≤ (0 : Int) ∧ (0 : Int) ≤ (76 : Int) ∧ (0 : Int) % (4 : Int) = (0 : Int) ∧ ([] : List AV).length + (6 : Nat) * es.length ≤ (1000000 : Nat)) && es.all bE then k (AV.tup []) [some (Row.box false [AV.tup [AV.int IntKind.i64 1], AV.slv (Sh.int IntKind.u8) bs, AV.undef, AV.slz (Sh.int IntKind.u8), AV.ptr 1125899906842625 0, AV.ptr 1125899906842626 0, AV.ptr 1125899906842627 0, AV.undef, AV.slv (Sh.int IntKind.u8) bs1, AV.int IntKind.i64 bl, AV.bool bb, AV.undef, AV.slv (Sh.int IntKind.u8) bs2, AV.fn (77 : Nat) [AV.ptr 1125899906842628 0], AV.undef, AV.undef, AV.undef, AV.undef, AV.undef, AV.undef, AV.undef, AV.undef, AV.undef, AV.undef, AV.undef, AV.undef, AV.undef, AV.undef, AV.undef, AV.undef, AV.undef, AV.undef]), some (Row.box false [AV.int IntKind.i64 z0, AV.int IntKind.i64 z1]), some (Row.box false [AV.own 2251799813685248]), some (Row.box false [AV.int IntKind.i64 (eL es.length es ([], (0 : Int))).snd]), some (Row.box false [AV.slv (Sh.int IntKind.u8) []])] [Row.arr false (Sh.int IntKind.u8) (5 : Nat) (eL es.length es ([], (0 : Int))).fst none] else none) (by kernel_rfl) ?_
    rw [← hk]
    refine Eq.trans (cond_t (and_t (decide_eq_true ⟨rfl, by omega, by omega, by decide, by show 0 + _ ≤ _; omega⟩) hall)) ?_
    rfl
  · cases h
noncomputable def G17 : Env := { pure := [(13, ofT F13), (15, ofT F15)], opens := [(41, ofX F41), (77, ofX F77)], rng := [(7, 1, 5000)] }
theorem g17 : GOK Tryz.prog G17 := GOK.flags (GOK.alsoX (GOK.alsoX (GOK.also (GOK.also g0 ok15) ok13) ok77) ok41)
def F17 : List AV → Tr AV
  | [.slv (.int .u8) es] => .gd (small es.length && es.all bE) (.br (decide ((es.length : Int) > 12000)) (.leaf (.tup [.slv (.int .u8) [], .agg [.int .i64 1, .int .i64 (-1)]])) (.leaf (.tup [.slv (.int .u8) (b64E es), .agg [.int .i64 0, .int .i64 0]])))
  | _ => .no
theorem rng17 : (Tryz.f17.body.map rngsOf) = some [loopCode 1] := by kernel_rfl
theorem ok17 : SumOK Tryz.prog 17 (ofT F17) ∧ SNat (ofT F17) := by
  refine ⟨sumOK_ofR g17 (drawOK g17 (by kernel_rfl)) Tryz.func17 (fun ρ avs k r h => ⟨[], fun c hc => KOK.nil (by
      have h1 : Tryz.f17.body.map loopsOf = some [] := by kernel_rfl
      rw [hc] at h1
      simpa using h1), ?_⟩) (rng_one rng17 rfl rfl), snat_ofT _⟩
  change (F17 avs).run k = some r at h
  unfold F17 at h
  split at h
  · rename_i es
    obtain ⟨hc, hk⟩ := gd_some h
    obtain ⟨hs, hall⟩ := (Bool.and_eq_true _ _).mp hc
    refine Eq.trans (b := bif decide ((↑es.length : Int) > (12000 : Int)) then k (AV.tup [AV.slv (Sh.int IntKind.u8) [], AV.agg [AV.int IntKind.i64 1, AV.int IntKind.i64 (-1 : Int)]]) else bif decide (es.length ≤ (20000 : Nat)) && es.all bE then bif decide ((e17 es).snd > (0 : Int)) then bif roomB ((e17 es).fst.length + [AV.int IntKind.u8 13, AV.int IntKind.u8 10].length) (Tryz.prog.bytesOf 5) then k (AV.tup [AV.slv (Sh.int IntKind.u8) ((e17 es).fst ++ [AV.int IntKind.u8 13, AV.int IntKind.u8 10]), AV.agg [AV.int IntKind.i64 0, AV.int IntKind.i64 0]]) else none else k (AV.tup [AV.slv (Sh.int IntKind.u8) (e17 es).fst, AV.agg [AV.int IntKind.i64 0, AV.int IntKind.i64 0]]) else none) (by kernel_rfl) ?_
    rw [← hk, hall]
    show _ = (bif decide ((es.length : Int) > 12000) then _ else _)
    unfold b64E
    have hi := eL_inv es.length es [] 0 ⟨by decide, by decide⟩ (by decide)
    cases hd : decide ((es.length : Int) > 12000)
    · have hd := of_decide_eq_false hd
      have hi1 : (e17 es).1.length ≤ 72000 := by have := hi.1; show (eL es.length es ([], 0)).1.length ≤ _; rw [List.length_nil] at this; omega
      refine Eq.trans (cond_f rfl) (Eq.trans (cond_t (and_t (decide_eq_true (by omega)) rfl)) ?_)
      cases decide ((e17 es).2 > 0)
      · refine Eq.trans (cond_f rfl) ?_
        simp only [cond_false, List.append_nil]
        rfl
      · exact Eq.trans (cond_t rfl) (cond_t (room5 (by show _ + 2 ≤ _; omega)))
    · rfl
  · cases h
end Go.Proofs.YtpmlhkoianekfaaGreatDoor
