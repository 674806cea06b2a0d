/-
  The result of a domain: the program's checker.
-/
import Derived.Test.YtegeegibnckkkaaDoorHsQ
import Derived.Test.YtegeegibnckkkaaDoorHsI
/-
  The document's RuleOf, ParsedPolicy.
-/
namespace Go.Proofs.YtegeegibnckkkaaDoor
open Go.Ev

noncomputable def G30 : Env := { pure := [(22, ofT F22), (37, ofT F37)] }
theorem g30 : GOK Tryd.prog G30 := GOK.also (GOK.also g0 ok37) ok22
noncomputable def b30 : Code := ((Tryd.f30.body.map loopsOf).getD []).headD .skip
noncomputable def c30 : Code := ((Tryd.f30.body.map loopsOf).getD []).tail.headD .skip
def headS (r k : Int) : List UInt8 := signS r ++ wordS k
/-- The first kind, from one on, with which the text begins. -/
def fH (r : Int) (s : List UInt8) : Nat → Int → Option Int
  | 0, _ => none
  | n + 1, k => bif preB s (headS r k) then some k else fH r s n (k + 1)
theorem head_len (r k : Int) : (headS r k).length ≤ 9 := by
  have := word_len k
  unfold headS
  rw [List.length_append, sign_len]
  omega
theorem head_text (r k : Int) : ([] : List UInt8) ++ tail [AV.agg [AV.int IntKind.i64 r, AV.int IntKind.i64 k, AV.str []]] = 32 :: headS r k := by
  show (32 :: (signS r ++ wordS k ++ [])) ++ [] = 32 :: (signS r ++ wordS k)
  rw [List.append_nil, List.append_nil]
theorem head_rest (r k : Int) : List.take ((((32 :: headS r k).length : Nat) : Int).toNat - Int.toNat 1) (List.drop (Int.toNat 1) (32 :: headS r k)) = headS r k := by
  show List.take ((headS r k).length + 1 - 1) (headS r k) = headS r k
  exact List.take_of_length_le (by omega)
def nmH (r k : Int) (s : List UInt8) : List UInt8 := s.drop (headS r k).length
def M30 : List AV → List (Option Row) → Tr LOut
  | [.str s, .ptr 0 0, .bool false, .int .i64 r, .int .i64 k], [some (.box false [.int .i64 0, .int .i64 0, .str []])] =>
    .gd (inR r 1 4 && (inR k 1 5 && decide (s.length ≤ 100000))) (.br (fH r s (5 - k).toNat k).isSome
      (.leaf (.ret, [.str s, .ptr 0 0, .bool (ruleC r ((fH r s (5 - k).toNat k).getD 0) (nmH r ((fH r s (5 - k).toNat k).getD 0) s) == 0), .int .i64 r, .int .i64 ((fH r s (5 - k).toNat k).getD 0)], [some (.box false [.int .i64 r, .int .i64 ((fH r s (5 - k).toNat k).getD 0), .str (nmH r ((fH r s (5 - k).toNat k).getD 0) s)])]))
      (.leaf (.exit 2, [.str s, .ptr 0 0, .bool false, .int .i64 r, .int .i64 5], [some (.box false [.int .i64 0, .int .i64 0, .str []])])))
  | _, _ => .no
def m30 : Ev.Loop := ⟨{ len := 48, slots := [0, 2, 3, 4, 5], rows := [0] }, ofL M30⟩
def fR (s : List UInt8) : Nat → Int → Option (Int × Int)
  | 0, _ => none
  | n + 1, r => match fH r s 4 1 with
    | some k => some (r, k)
    | none => fR s n (r + 1)
def L30 : List AV → List (Option Row) → Tr LOut
  | [.str s, .ptr 0 0, .bool false, .int .i64 r], [some (.box false [.int .i64 0, .int .i64 0, .str []])] =>
    .gd (inR r 1 5 && decide (s.length ≤ 100000)) (.br (fR s (5 - r).toNat r).isSome
      (.leaf (.ret, [.str s, .ptr 0 0, .bool (ruleC ((fR s (5 - r).toNat r).getD (0, 0)).1 ((fR s (5 - r).toNat r).getD (0, 0)).2 (nmH ((fR s (5 - r).toNat r).getD (0, 0)).1 ((fR s (5 - r).toNat r).getD (0, 0)).2 s) == 0), .int .i64 ((fR s (5 - r).toNat r).getD (0, 0)).1], [some (.box false [.int .i64 ((fR s (5 - r).toNat r).getD (0, 0)).1, .int .i64 ((fR s (5 - r).toNat r).getD (0, 0)).2, .str (nmH ((fR s (5 - r).toNat r).getD (0, 0)).1 ((fR s (5 - r).toNat r).getD (0, 0)).2 s)])]))
      (.leaf (.exit 0, [.str s, .ptr 0 0, .bool false, .int .i64 5], [some (.box false [.int .i64 0, .int .i64 0, .str []])])))
  | _, _ => .no
def l30 : Ev.Loop := ⟨{ len := 48, slots := [0, 2, 3, 4], rows := [0] }, ofL L30⟩
def μ30 (vs : List AV) (_ : List (Option Row)) : Nat := match vs with
  | [_, _, _, .int _ r] => (5 - r).toNat
  | _ => 0
def μ30b (vs : List AV) (_ : List (Option Row)) : Nat := match vs with
  | [_, _, _, _, .int _ k] => (5 - k).toNat
  | _ => 0
theorem loop30b : LoopOK Tryd.prog G30 [(2, l30), (5, m30)] c30 m30 := by
  refine loopT g30.natOK rfl (KOK.nil (by kernel_rfl)) μ30b (fun ρ vs rs kk z h => ?_)
  unfold M30 at h
  split at h
  · rename_i s r k
    obtain ⟨hc, hk⟩ := gd_some h
    simp only [Bool.and_eq_true] at hc
    obtain ⟨hr, hc, hd⟩ := hc
    have hd' := of_decide_eq_true hd
    have h5 := inR_spec hc
    have h1 := inR_spec hr
    refine Eq.trans (b := bif decide (k ≤ (4 : Int)) then bif decide ([AV.agg [AV.int IntKind.i64 r, AV.int IntKind.i64 k, AV.str []]].length ≤ (60 : Nat) ∧ ([] : List UInt8).length ≤ (10000 : Nat)) && [AV.agg [AV.int IntKind.i64 r, AV.int IntKind.i64 k, AV.str []]].all okT then bif slb (1 : Int) (↑(([] : List UInt8) ++ tail [AV.agg [AV.int IntKind.i64 r, AV.int IntKind.i64 k, AV.str []]]).length : Int) (([] : List UInt8) ++ tail [AV.agg [AV.int IntKind.i64 r, AV.int IntKind.i64 k, AV.str []]]).length then bif decide ((↑s.length : Int) < (↑(List.take ((↑(([] : List UInt8) ++ tail [AV.agg [AV.int IntKind.i64 r, AV.int IntKind.i64 k, AV.str []]]).length : Int).toNat - Int.toNat (1 : Int)) (List.drop (Int.toNat (1 : Int)) (([] : List UInt8) ++ tail [AV.agg [AV.int IntKind.i64 r, AV.int IntKind.i64 k, AV.str []]]))).length : Int)) then bif decide (((5 : Int) - IntKind.i64.wrap (k + (1 : Int))).toNat < ((5 : Int) - k).toNat) then bif inR r (1 : Int) (4 : Int) && (inR (IntKind.i64.wrap (k + (1 : Int))) (1 : Int) (5 : Int) && decide (s.length ≤ (100000 : Nat))) then bif (fH r s ((5 : Int) - IntKind.i64.wrap (k + (1 : Int))).toNat (IntKind.i64.wrap (k + (1 : Int)))).isSome then kk Ex.ret [AV.str s, AV.ptr (0 : Nat) (0 : Nat), AV.bool (ruleC r ((fH r s ((5 : Int) - IntKind.i64.wrap (k + (1 : Int))).toNat (IntKind.i64.wrap (k + (1 : Int)))).getD (0 : Int)) (nmH r ((fH r s ((5 : Int) - IntKind.i64.wrap (k + (1 : Int))).toNat (IntKind.i64.wrap (k + (1 : Int)))).getD (0 : Int)) s) == (0 : Int)), AV.int IntKind.i64 r, AV.int IntKind.i64 ((fH r s ((5 : Int) - IntKind.i64.wrap (k + (1 : Int))).toNat (IntKind.i64.wrap (k + (1 : Int)))).getD (0 : Int))] [some (Row.box false [AV.int IntKind.i64 r, AV.int IntKind.i64 ((fH r s ((5 : Int) - IntKind.i64.wrap (k + (1 : Int))).toNat (IntKind.i64.wrap (k + (1 : Int)))).getD (0 : Int)), AV.str (nmH r ((fH r s ((5 : Int) - IntKind.i64.wrap (k + (1 : Int))).toNat (IntKind.i64.wrap (k + (1 : Int)))).getD (0 : Int)) s)])] else kk (Ex.exit (2 : Nat)) [AV.str s, AV.ptr (0 : Nat) (0 : Nat), AV.bool false, AV.int IntKind.i64 r, AV.int IntKind.i64 (5 : Int)] [some (Row.box false [AV.int IntKind.i64 (0 : Int), AV.int IntKind.i64 (0 : Int), AV.str []])] else none else none else bif slb (0 : Int) (↑(List.take ((↑(([] : List UInt8) ++ tail [AV.agg [AV.int IntKind.i64 r, AV.int IntKind.i64 k, AV.str []]]).length : Int).toNat - Int.toNat (1 : Int)) (List.drop (Int.toNat (1 : Int)) (([] : List UInt8) ++ tail [AV.agg [AV.int IntKind.i64 r, AV.int IntKind.i64 k, AV.str []]]))).length : Int) s.length then bif !List.take ((↑(List.take ((↑(([] : List UInt8) ++ tail [AV.agg [AV.int IntKind.i64 r, AV.int IntKind.i64 k, AV.str []]]).length : Int).toNat - Int.toNat (1 : Int)) (List.drop (Int.toNat (1 : Int)) (([] : List UInt8) ++ tail [AV.agg [AV.int IntKind.i64 r, AV.int IntKind.i64 k, AV.str []]]))).length : Int).toNat - Int.toNat (0 : Int)) (List.drop (0 : Nat) s) == List.take ((↑(([] : List UInt8) ++ tail [AV.agg [AV.int IntKind.i64 r, AV.int IntKind.i64 k, AV.str []]]).length : Int).toNat - Int.toNat (1 : Int)) (List.drop (Int.toNat (1 : Int)) (([] : List UInt8) ++ tail [AV.agg [AV.int IntKind.i64 r, AV.int IntKind.i64 k, AV.str []]])) then bif decide (((5 : Int) - IntKind.i64.wrap (k + (1 : Int))).toNat < ((5 : Int) - k).toNat) then bif inR r (1 : Int) (4 : Int) && (inR (IntKind.i64.wrap (k + (1 : Int))) (1 : Int) (5 : Int) && decide (s.length ≤ (100000 : Nat))) then bif (fH r s ((5 : Int) - IntKind.i64.wrap (k + (1 : Int))).toNat (IntKind.i64.wrap (k + (1 : Int)))).isSome then kk Ex.ret [AV.str s, AV.ptr (0 : Nat) (0 : Nat), AV.bool (ruleC r ((fH r s ((5 : Int) - IntKind.i64.wrap (k + (1 : Int))).toNat (IntKind.i64.wrap (k + (1 : Int)))).getD (0 : Int)) (nmH r ((fH r s ((5 : Int) - IntKind.i64.wrap (k + (1 : Int))).toNat (IntKind.i64.wrap (k + (1 : Int)))).getD (0 : Int)) s) == (0 : Int)), AV.int IntKind.i64 r, AV.int IntKind.i64 ((fH r s ((5 : Int) - IntKind.i64.wrap (k + (1 : Int))).toNat (IntKind.i64.wrap (k + (1 : Int)))).getD (0 : Int))] [some (Row.box false [AV.int IntKind.i64 r, AV.int IntKind.i64 ((fH r s ((5 : Int) - IntKind.i64.wrap (k + (1 : Int))).toNat (IntKind.i64.wrap (k + (1 : Int)))).getD (0 : Int)), AV.str (nmH r ((fH r s ((5 : Int) - IntKind.i64.wrap (k + (1 : Int))).toNat (IntKind.i64.wrap (k + (1 : Int)))).getD (0 : Int)) s)])] else kk (Ex.exit (2 : Nat)) [AV.str s, AV.ptr (0 : Nat) (0 : Nat), AV.bool false, AV.int IntKind.i64 r, AV.int IntKind.i64 (5 : Int)] [some (Row.box false [AV.int IntKind.i64 (0 : Int), AV.int IntKind.i64 (0 : Int), AV.str []])] else none else none else bif slb (↑(List.take ((↑(([] : List UInt8) ++ tail [AV.agg [AV.int IntKind.i64 r, AV.int IntKind.i64 k, AV.str []]]).length : Int).toNat - Int.toNat (1 : Int)) (List.drop (Int.toNat (1 : Int)) (([] : List UInt8) ++ tail [AV.agg [AV.int IntKind.i64 r, AV.int IntKind.i64 k, AV.str []]]))).length : Int) (↑s.length : Int) s.length then bif small (List.take ((↑s.length : Int).toNat - (↑(List.take ((↑(([] : List UInt8) ++ tail [AV.agg [AV.int IntKind.i64 r, AV.int IntKind.i64 k, AV.str []]]).length : Int).toNat - Int.toNat (1 : Int)) (List.drop (Int.toNat (1 : Int)) (([] : List UInt8) ++ tail [AV.agg [AV.int IntKind.i64 r, AV.int IntKind.i64 k, AV.str []]]))).length : Int).toNat) (List.drop (↑(List.take ((↑(([] : List UInt8) ++ tail [AV.agg [AV.int IntKind.i64 r, AV.int IntKind.i64 k, AV.str []]]).length : Int).toNat - Int.toNat (1 : Int)) (List.drop (Int.toNat (1 : Int)) (([] : List UInt8) ++ tail [AV.agg [AV.int IntKind.i64 r, AV.int IntKind.i64 k, AV.str []]]))).length : Int).toNat s)).length then kk Ex.ret [AV.str s, AV.ptr (0 : Nat) (0 : Nat), AV.bool (ruleC r k (List.take ((↑s.length : Int).toNat - (↑(List.take ((↑(([] : List UInt8) ++ tail [AV.agg [AV.int IntKind.i64 r, AV.int IntKind.i64 k, AV.str []]]).length : Int).toNat - Int.toNat (1 : Int)) (List.drop (Int.toNat (1 : Int)) (([] : List UInt8) ++ tail [AV.agg [AV.int IntKind.i64 r, AV.int IntKind.i64 k, AV.str []]]))).length : Int).toNat) (List.drop (↑(List.take ((↑(([] : List UInt8) ++ tail [AV.agg [AV.int IntKind.i64 r, AV.int IntKind.i64 k, AV.str []]]).length : Int).toNat - Int.toNat (1 : Int)) (List.drop (Int.toNat (1 : Int)) (([] : List UInt8) ++ tail [AV.agg [AV.int IntKind.i64 r, AV.int IntKind.i64 k, AV.str []]]))).length : Int).toNat s)) == (0 : Int)), AV.int IntKind.i64 r, AV.int IntKind.i64 k] [some (Row.box false [AV.int IntKind.i64 r, AV.int IntKind.i64 k, AV.str (List.take ((↑s.length : Int).toNat - (↑(List.take ((↑(([] : List UInt8) ++ tail [AV.agg [AV.int IntKind.i64 r, AV.int IntKind.i64 k, AV.str []]]).length : Int).toNat - Int.toNat (1 : Int)) (List.drop (Int.toNat (1 : Int)) (([] : List UInt8) ++ tail [AV.agg [AV.int IntKind.i64 r, AV.int IntKind.i64 k, AV.str []]]))).length : Int).toNat) (List.drop (↑(List.take ((↑(([] : List UInt8) ++ tail [AV.agg [AV.int IntKind.i64 r, AV.int IntKind.i64 k, AV.str []]]).length : Int).toNat - Int.toNat (1 : Int)) (List.drop (Int.toNat (1 : Int)) (([] : List UInt8) ++ tail [AV.agg [AV.int IntKind.i64 r, AV.int IntKind.i64 k, AV.str []]]))).length : Int).toNat s))])] else none else none else none else none else none else kk (Ex.exit (2 : Nat)) [AV.str s, AV.ptr (0 : Nat) (0 : Nat), AV.bool false, AV.int IntKind.i64 r, AV.int IntKind.i64 k] [some (Row.box false [AV.int IntKind.i64 (0 : Int), AV.int IntKind.i64 (0 : Int), AV.str []])]) (by kernel_rfl) ?_
    rw [← hk]
    by_cases hlt : k ≤ 4
    · have hL := head_len r k
      have w : IntKind.i64.wrap (k + 1) = k + 1 := wrap_mid _ (by omega) (by omega)
      have hf : fH r s (5 - k).toNat k = bif preB s (headS r k) then some k else fH r s (5 - (k + 1)).toNat (k + 1) := by
        rw [show (5 - k).toNat = (5 - (k + 1)).toNat + 1 from by omega]; rfl
      have s1 : (decide ([AV.agg [AV.int IntKind.i64 r, AV.int IntKind.i64 k, AV.str []]].length ≤ 60 ∧ ([] : List UInt8).length ≤ 10000) && [AV.agg [AV.int IntKind.i64 r, AV.int IntKind.i64 k, AV.str []]].all okT) = true := by
        have : okT (AV.agg [AV.int IntKind.i64 r, AV.int IntKind.i64 k, AV.str []]) = (inR r 1 4 && (inR k 1 4 && decide (([] : List UInt8).length ≤ 1000))) := rfl
        rw [List.all_cons, this, hr, inR_of h5.1 hlt]; rfl
      have s2 : slb 1 (((32 :: headS r k).length : Nat) : Int) (32 :: headS r k).length = true := slb_true (by omega) (by show (1 : Int) ≤ (((headS r k).length + 1 : Nat) : Int); omega) (by omega)
      have s4 : (inR r 1 4 && (inR (k + 1) 1 5 && decide (s.length ≤ 100000))) = true := and_t hr (and_t (inR_of (by omega) (by omega)) hd)
      have s6 : decide ((5 - (k + 1)).toNat < (5 - k).toNat) = true := decide_eq_true (by omega)
      rw [head_text, s1, s2, head_rest, w, s4, s6, hf, decide_eq_true hlt]
      by_cases hl : (headS r k).length ≤ s.length
      · have s7 : decide ((s.length : Int) < ((headS r k).length : Int)) = false := decide_eq_false (by omega)
        have s8 : slb 0 ((headS r k).length : Int) s.length = true := slb_true (by omega) (by omega) (by omega)
        have s9 : slb ((headS r k).length : Int) (s.length : Int) s.length = true := slb_true (by omega) (by omega) (by omega)
        have t1 : List.take (((headS r k).length : Int).toNat - Int.toNat 0) (List.drop 0 s) = s.take (headS r k).length := rfl
        have t2 : List.take ((s.length : Int).toNat - ((headS r k).length : Int).toNat) (List.drop ((headS r k).length : Int).toNat s) = nmH r k s := by
          simp only [Int.toNat_natCast]
          exact List.take_of_length_le (by rw [List.length_drop]; exact Nat.le_refl _)
        have s10 : small (nmH r k s).length = true := decide_eq_true (by unfold nmH; rw [List.length_drop]; omega)
        have hp : preB s (headS r k) = (s.take (headS r k).length == headS r k) := by
          unfold preB; rw [decide_eq_true hl]; rfl
        rw [s7, s8, s9, t1, t2, s10, hp]
        generalize fH r s (5 - (k + 1)).toNat (k + 1) = X
        cases s.take (headS r k).length == headS r k
        · cases X <;> rfl
        · rfl
      · have s7 : decide ((s.length : Int) < ((headS r k).length : Int)) = true := decide_eq_true (by omega)
        have hp : preB s (headS r k) = false := by unfold preB; rw [decide_eq_false hl]; rfl
        rw [s7, hp]
        generalize fH r s (5 - (k + 1)).toNat (k + 1) = X
        cases X <;> rfl
    · obtain rfl : k = 5 := by omega
      rfl
  · cases h
theorem loop30 : LoopOK Tryd.prog G30 [(2, l30), (5, m30)] b30 l30 := by
  refine loopT g30.natOK rfl (KOK.one (by kernel_rfl) (by kernel_rfl) loop30b) μ30 (fun ρ vs rs kk z h => ?_)
  unfold L30 at h
  split at h
  · rename_i s r
    obtain ⟨hc, hk⟩ := gd_some h
    simp only [Bool.and_eq_true] at hc
    obtain ⟨hr, hd⟩ := hc
    have h5 := inR_spec hr
    refine Eq.trans (b := bif decide (r ≤ (4 : Int)) then bif inR r (1 : Int) (4 : Int) && (inR (1 : Int) (1 : Int) (5 : Int) && decide (s.length ≤ (100000 : Nat))) then bif (fH r s ((5 : Int) - (1 : Int)).toNat (1 : Int)).isSome then kk Ex.ret [AV.str s, AV.ptr (0 : Nat) (0 : Nat), AV.bool (ruleC r ((fH r s ((5 : Int) - (1 : Int)).toNat (1 : Int)).getD (0 : Int)) (nmH r ((fH r s ((5 : Int) - (1 : Int)).toNat (1 : Int)).getD (0 : Int)) s) == (0 : Int)), AV.int IntKind.i64 r] [some (Row.box false [AV.int IntKind.i64 r, AV.int IntKind.i64 ((fH r s ((5 : Int) - (1 : Int)).toNat (1 : Int)).getD (0 : Int)), AV.str (nmH r ((fH r s ((5 : Int) - (1 : Int)).toNat (1 : Int)).getD (0 : Int)) s)])] else bif decide (((5 : Int) - IntKind.i64.wrap (r + (1 : Int))).toNat < ((5 : Int) - r).toNat) then bif inR (IntKind.i64.wrap (r + (1 : Int))) (1 : Int) (5 : Int) && decide (s.length ≤ (100000 : Nat)) then bif (fR s ((5 : Int) - IntKind.i64.wrap (r + (1 : Int))).toNat (IntKind.i64.wrap (r + (1 : Int)))).isSome then kk Ex.ret [AV.str s, AV.ptr (0 : Nat) (0 : Nat), AV.bool (ruleC ((fR s ((5 : Int) - IntKind.i64.wrap (r + (1 : Int))).toNat (IntKind.i64.wrap (r + (1 : Int)))).getD ((0 : Int), (0 : Int))).fst ((fR s ((5 : Int) - IntKind.i64.wrap (r + (1 : Int))).toNat (IntKind.i64.wrap (r + (1 : Int)))).getD ((0 : Int), (0 : Int))).snd (nmH ((fR s ((5 : Int) - IntKind.i64.wrap (r + (1 : Int))).toNat (IntKind.i64.wrap (r + (1 : Int)))).getD ((0 : Int), (0 : Int))).fst ((fR s ((5 : Int) - IntKind.i64.wrap (r + (1 : Int))).toNat (IntKind.i64.wrap (r + (1 : Int)))).getD ((0 : Int), (0 : Int))).snd s) == (0 : Int)), AV.int IntKind.i64 ((fR s ((5 : Int) - IntKind.i64.wrap (r + (1 : Int))).toNat (IntKind.i64.wrap (r + (1 : Int)))).getD ((0 : Int), (0 : Int))).fst] [some (Row.box false [AV.int IntKind.i64 ((fR s ((5 : Int) - IntKind.i64.wrap (r + (1 : Int))).toNat (IntKind.i64.wrap (r + (1 : Int)))).getD ((0 : Int), (0 : Int))).fst, AV.int IntKind.i64 ((fR s ((5 : Int) - IntKind.i64.wrap (r + (1 : Int))).toNat (IntKind.i64.wrap (r + (1 : Int)))).getD ((0 : Int), (0 : Int))).snd, AV.str (nmH ((fR s ((5 : Int) - IntKind.i64.wrap (r + (1 : Int))).toNat (IntKind.i64.wrap (r + (1 : Int)))).getD ((0 : Int), (0 : Int))).fst ((fR s ((5 : Int) - IntKind.i64.wrap (r + (1 : Int))).toNat (IntKind.i64.wrap (r + (1 : Int)))).getD ((0 : Int), (0 : Int))).snd s)])] else kk (Ex.exit (0 : Nat)) [AV.str s, AV.ptr (0 : Nat) (0 : Nat), AV.bool false, AV.int IntKind.i64 (5 : Int)] [some (Row.box false [AV.int IntKind.i64 (0 : Int), AV.int IntKind.i64 (0 : Int), AV.str []])] else none else none else none else kk (Ex.exit (0 : Nat)) [AV.str s, AV.ptr (0 : Nat) (0 : Nat), AV.bool false, AV.int IntKind.i64 r] [some (Row.box false [AV.int IntKind.i64 (0 : Int), AV.int IntKind.i64 (0 : Int), AV.str []])]) (by kernel_rfl) ?_
    rw [← hk]
    by_cases hlt : r ≤ 4
    · have w : IntKind.i64.wrap (r + 1) = r + 1 := wrap_mid _ (by omega) (by omega)
      have hf : fR s (5 - r).toNat r = match fH r s 4 1 with
          | some k => some (r, k)
          | none => fR s (5 - (r + 1)).toNat (r + 1) := by
        rw [show (5 - r).toNat = (5 - (r + 1)).toNat + 1 from by omega]; rfl
      have s3 : (inR r 1 4 && (inR 1 1 5 && decide (s.length ≤ 100000))) = true := and_t (inR_of h5.1 hlt) (and_t rfl hd)
      have s4 : (inR (r + 1) 1 5 && decide (s.length ≤ 100000)) = true := and_t (inR_of (by omega) (by omega)) hd
      have s6 : decide ((5 - (r + 1)).toNat < (5 - r).toNat) = true := decide_eq_true (by omega)
      have s5 : ((5 : Int) - 1).toNat = 4 := rfl
      rw [hf, w, s3, s4, s6, s5, decide_eq_true hlt]
      generalize fR s (5 - (r + 1)).toNat (r + 1) = X
      generalize fH r s 4 1 = Y
      cases Y
      · cases X <;> rfl
      · rfl
    · obtain rfl : r = 5 := by omega
      rfl
  · cases h
theorem preB_two {t p : List UInt8} {x y : UInt8} (h : preB t (x :: y :: p) = true) : ∃ u, t = x :: y :: u := by
  unfold preB at h
  simp only [Bool.and_eq_true, decide_eq_true_eq, beq_iff_eq] at h
  match t, h with
  | [], h => exact absurd h.1 (by simp)
  | [a], h => exact absurd h.1 (by simp)
  | a :: b :: u, h =>
    have h2 := h.2
    simp only [List.length_cons, List.take_succ_cons, List.cons.injEq] at h2
    obtain ⟨rfl, rfl, _⟩ := h2
    exact ⟨u, rfl⟩
theorem preB_cons (b c : UInt8) (t p : List UInt8) : preB (b :: t) (c :: p) = ((b == c) && preB t p) := by
  unfold preB
  simp only [List.length_cons, List.take_succ_cons, Nat.add_le_add_iff_right]
  by_cases h : p.length ≤ t.length
  · rw [decide_eq_true h]
    rfl
  · rw [decide_eq_false h]
    cases b == c <;> rfl
/-- No text begins with two of the words. -/
theorem words_apart {t : List UInt8} {p q : List UInt8} {a b c d : UInt8} (h1 : preB t (a :: b :: p) = true) (h2 : preB t (c :: d :: q) = true) : a = c ∧ b = d := by
  obtain ⟨u, rfl⟩ := preB_two h1
  obtain ⟨v, hv⟩ := preB_two h2
  simp only [List.cons.injEq] at hv
  exact ⟨hv.1, hv.2.1⟩
def okDoc (s : List UInt8) : Bool := (fR s 4 1).isSome && ruleC ((fR s 4 1).getD (0, 0)).1 ((fR s 4 1).getD (0, 0)).2 (nmH ((fR s 4 1).getD (0, 0)).1 ((fR s 4 1).getD (0, 0)).2 s) == 0
def rdDoc (s : List UInt8) : AV := .agg [.int .i64 ((fR s 4 1).getD (0, 0)).1, .int .i64 ((fR s 4 1).getD (0, 0)).2, .str (nmH ((fR s 4 1).getD (0, 0)).1 ((fR s 4 1).getD (0, 0)).2 s)]
def F30 : List AV → Tr AV
  | [.str s] => .gd (decide (s.length ≤ 100000)) (.br (fR s 4 1).isSome (.leaf (.tup [rdDoc s, .bool (okDoc s)])) (.leaf (.tup [.agg [.int .i64 0, .int .i64 0, .str []], .bool false])))
  | _ => .no
theorem ok30 : SumOK Tryd.prog 30 (ofT F30) ∧ SNat (ofT F30) := by
  refine fnT (K := [(2, l30), (5, m30)]) (bs := [b30, c30]) g30 Tryd.func30 (by kernel_rfl) (fun b hb => ?_) fun ρ avs k r h => ?_
  · rcases List.mem_cons.1 hb with rfl | hb
    · exact ⟨l30, by kernel_rfl, loop30⟩
    · rcases List.mem_cons.1 hb with rfl | hb
      · exact ⟨m30, by kernel_rfl, loop30b⟩
      · cases hb
  unfold F30 at h
  split at h
  · rename_i s
    obtain ⟨hc, hk⟩ := gd_some h
    refine Eq.trans (b := bif inR (1 : Int) (1 : Int) (5 : Int) && decide (s.length ≤ (100000 : Nat)) then bif (fR s ((5 : Int) - (1 : Int)).toNat (1 : Int)).isSome then k (AV.tup [AV.agg [AV.int IntKind.i64 ((fR s ((5 : Int) - (1 : Int)).toNat (1 : Int)).getD ((0 : Int), (0 : Int))).fst, AV.int IntKind.i64 ((fR s ((5 : Int) - (1 : Int)).toNat (1 : Int)).getD ((0 : Int), (0 : Int))).snd, AV.str (nmH ((fR s ((5 : Int) - (1 : Int)).toNat (1 : Int)).getD ((0 : Int), (0 : Int))).fst ((fR s ((5 : Int) - (1 : Int)).toNat (1 : Int)).getD ((0 : Int), (0 : Int))).snd s)], AV.bool (ruleC ((fR s ((5 : Int) - (1 : Int)).toNat (1 : Int)).getD ((0 : Int), (0 : Int))).fst ((fR s ((5 : Int) - (1 : Int)).toNat (1 : Int)).getD ((0 : Int), (0 : Int))).snd (nmH ((fR s ((5 : Int) - (1 : Int)).toNat (1 : Int)).getD ((0 : Int), (0 : Int))).fst ((fR s ((5 : Int) - (1 : Int)).toNat (1 : Int)).getD ((0 : Int), (0 : Int))).snd s) == (0 : Int))]) else k (AV.tup [AV.agg [AV.int IntKind.i64 (0 : Int), AV.int IntKind.i64 (0 : Int), AV.str []], AV.bool false]) else none) (by kernel_rfl) ?_
    rw [← hk, hc]
    unfold okDoc rdDoc
    have s5 : ((5 : Int) - 1).toNat = 4 := rfl
    rw [s5]
    generalize fR s 4 1 = X
    cases X <;> rfl
  · cases h
end Go.Proofs.YtegeegibnckkkaaDoor

/-
  The document's rules are the program's; ParsedPolicy.
-/
namespace Go.Proofs.YtegeegibnckkkaaDoor
open Go.Ev

def fW (t : List UInt8) : Nat → Int → Option Int
  | 0, _ => none
  | n + 1, k => bif preB t (wordS k) then some k else fW t n (k + 1)
theorem fH_eq {r : Int} {b : UInt8} (t : List UInt8) (hs : signS r = [b]) : ∀ (n : Nat) (k : Int), fH r (b :: t) n k = fW t n k
  | 0, _ => rfl
  | n + 1, k => by
    have : preB (b :: t) (headS r k) = preB t (wordS k) := by
      unfold headS
      rw [hs]
      show preB (b :: t) (b :: wordS k) = _
      rw [preB_cons, beq_self_eq_true, Bool.true_and]
    show (bif preB (b :: t) (headS r k) then some k else fH r (b :: t) n (k + 1)) = bif preB t (wordS k) then some k else fW t n (k + 1)
    rw [this, fH_eq t hs n (k + 1)]
theorem fH_ne {r : Int} {b c : UInt8} (t : List UInt8) (hs : signS r = [c]) (h : (b == c) = false) : ∀ (n : Nat) (k : Int), fH r (b :: t) n k = none
  | 0, _ => rfl
  | n + 1, k => by
    have : preB (b :: t) (headS r k) = false := by
      unfold headS
      rw [hs]
      show preB (b :: t) (c :: wordS k) = _
      rw [preB_cons, h, Bool.false_and]
    show (bif preB (b :: t) (headS r k) then some k else fH r (b :: t) n (k + 1)) = none
    rw [this, fH_ne t hs h n (k + 1)]
    rfl
theorem fK_fW (r : Int) (t : List UInt8) : fK r t 4 1 = match fW t 4 1 with
    | some k => bif ruleC r k (t.drop (wordS k).length) == 0 then some k else none
    | none => none := by
  have w1 : wordS 1 = [97, 108, 108] := rfl
  have w2 : wordS 2 = [105, 115, 58] := rfl
  have w3 : wordS 3 = [117, 110, 100, 101, 114, 58] := rfl
  have w4 : wordS 4 = [105, 110, 99, 108, 117, 100, 101, 58] := rfl
  have a12 : ¬ (preB t (wordS 1) = true ∧ preB t (wordS 2) = true) := fun h => absurd (words_apart (w1 ▸ h.1) (w2 ▸ h.2)) (by decide)
  have a13 : ¬ (preB t (wordS 1) = true ∧ preB t (wordS 3) = true) := fun h => absurd (words_apart (w1 ▸ h.1) (w3 ▸ h.2)) (by decide)
  have a14 : ¬ (preB t (wordS 1) = true ∧ preB t (wordS 4) = true) := fun h => absurd (words_apart (w1 ▸ h.1) (w4 ▸ h.2)) (by decide)
  have a23 : ¬ (preB t (wordS 2) = true ∧ preB t (wordS 3) = true) := fun h => absurd (words_apart (w2 ▸ h.1) (w3 ▸ h.2)) (by decide)
  have a24 : ¬ (preB t (wordS 2) = true ∧ preB t (wordS 4) = true) := fun h => absurd (words_apart (w2 ▸ h.1) (w4 ▸ h.2)) (by decide)
  have a34 : ¬ (preB t (wordS 3) = true ∧ preB t (wordS 4) = true) := fun h => absurd (words_apart (w3 ▸ h.1) (w4 ▸ h.2)) (by decide)
  have eK : fK r t 4 1 = bif preB t (wordS 1) && ruleC r 1 (t.drop (wordS 1).length) == 0 then some 1 else bif preB t (wordS 2) && ruleC r 2 (t.drop (wordS 2).length) == 0 then some 2 else bif preB t (wordS 3) && ruleC r 3 (t.drop (wordS 3).length) == 0 then some 3 else bif preB t (wordS 4) && ruleC r 4 (t.drop (wordS 4).length) == 0 then some 4 else none := rfl
  have eW : fW t 4 1 = bif preB t (wordS 1) then some 1 else bif preB t (wordS 2) then some 2 else bif preB t (wordS 3) then some 3 else bif preB t (wordS 4) then some 4 else none := rfl
  rw [eK, eW]
  cases h1 : preB t (wordS 1) <;> cases h2 : preB t (wordS 2) <;> cases h3 : preB t (wordS 3) <;> cases h4 : preB t (wordS 4) <;> first
    | rfl
    | (exfalso; exact a12 (And.intro h1 h2))
    | (exfalso; exact a13 (And.intro h1 h3))
    | (exfalso; exact a14 (And.intro h1 h4))
    | (exfalso; exact a23 (And.intro h2 h3))
    | (exfalso; exact a24 (And.intro h2 h4))
    | (exfalso; exact a34 (And.intro h3 h4))
theorem fR_step (s : List UInt8) (n : Nat) (r : Int) : fR s (n + 1) r = match fH r s 4 1 with
    | some k => some (r, k)
    | none => fR s n (r + 1) := rfl
theorem doc_key {r : Int} {b : UInt8} {t : List UInt8} (hs : signS r = [b]) (hr : rO (b :: t) = r) (hf : fR (b :: t) 4 1 = (fW t 4 1).map fun k => (r, k)) :
    okDoc (b :: t) = okRd (b :: t) ∧ (okRd (b :: t) = true → rdDoc (b :: t) = .agg [.int .i64 (rO (b :: t)), .int .i64 ((kO (b :: t)).getD 0), .str (((b :: t).drop 1).drop (wordS ((kO (b :: t)).getD 0)).length)]) := by
  have hn : ∀ k, nmH r k (b :: t) = t.drop (wordS k).length := fun k => by
    unfold nmH headS
    rw [hs]
    rfl
  have hk : kO (b :: t) = fK r t 4 1 := by unfold kO; rw [hr]; rfl
  have ho : okRd (b :: t) = (fK r t 4 1).isSome := by unfold okRd; rw [hk]; rfl
  rw [ho, hk, hr, fK_fW]
  unfold okDoc rdDoc
  rw [hf]
  cases fW t 4 1 with
  | none => exact ⟨rfl, fun h => by cases h⟩
  | some k =>
    show (ruleC r k (nmH r k (b :: t)) == 0) = (bif ruleC r k (t.drop (wordS k).length) == 0 then some k else none).isSome ∧ ((bif ruleC r k (t.drop (wordS k).length) == 0 then some k else none).isSome = true → AV.agg [.int .i64 r, .int .i64 k, .str (nmH r k (b :: t))] = .agg [.int .i64 r, .int .i64 ((bif ruleC r k (t.drop (wordS k).length) == 0 then some k else none).getD 0), .str (t.drop (wordS ((bif ruleC r k (t.drop (wordS k).length) == 0 then some k else none).getD 0)).length)])
    rw [hn]
    cases ruleC r k (t.drop (wordS k).length) == 0
    · exact ⟨rfl, fun h => by cases h⟩
    · exact ⟨rfl, fun _ => rfl⟩
theorem fK_bad {r : Int} (h : inR r 1 4 = false) (t : List UInt8) : ∀ (n : Nat) (k : Int), fK r t n k = none
  | 0, _ => rfl
  | n + 1, k => by
    have : hitAt r t k = false := by
      unfold hitAt ruleC
      rw [h]
      exact Bool.and_false _
    show (bif hitAt r t k then some k else fK r t n (k + 1)) = none
    rw [this, fK_bad h t n (k + 1)]
    rfl
theorem fR_none {b : UInt8} (t : List UInt8) (h1 : (b == 43) = false) (h2 : (b == 45) = false) (h3 : (b == 126) = false) (h4 : (b == 63) = false) : fR (b :: t) 4 1 = none := by
  rw [fR_step, fH_ne t (r := 1) rfl h1]
  show fR (b :: t) 3 2 = none
  rw [fR_step, fH_ne t (r := 2) rfl h2]
  show fR (b :: t) 2 3 = none
  rw [fR_step, fH_ne t (r := 3) rfl h3]
  show fR (b :: t) 1 4 = none
  rw [fR_step, fH_ne t (r := 4) rfl h4]
  rfl
theorem rO_none {b : UInt8} (t : List UInt8) (h1 : (b == 43) = false) (h2 : (b == 45) = false) (h3 : (b == 126) = false) (h4 : (b == 63) = false) : inR (rO (b :: t)) 1 4 = false := by
  have e : (b.toNat : Int).toNat.toUInt8 = b := by rw [Int.toNat_natCast]; exact UInt8.ofNat_toNat
  have sy : ∀ c : UInt8, (b == c) = false → (c == b) = false := fun c h => by
    rw [beq_eq_false_iff_ne] at h ⊢
    exact fun h' => h h'.symm
  show inR (Lib.indexByte [32, 43, 45, 126, 63] (b.toNat : Int).toNat.toUInt8) 1 4 = false
  rw [e]
  simp only [Lib.indexByte, sy _ h1, sy _ h2, sy _ h3, sy _ h4]
  cases (32 : UInt8) == b <;> rfl
theorem doc_eq : ∀ s : List UInt8, okDoc s = okRd s ∧ (okRd s = true → rdDoc s = .agg [.int .i64 (rO s), .int .i64 ((kO s).getD 0), .str ((s.drop 1).drop (wordS ((kO s).getD 0)).length)])
  | [] => ⟨by decide, fun h => absurd h (by decide)⟩
  | b :: t => by
    by_cases h1 : b = 43
    · subst h1
      refine doc_key (r := 1) rfl rfl ?_
      rw [fR_step, fH_eq t (r := 1) rfl]
      have n2 : fR (43 :: t) 3 2 = none := by
        rw [fR_step, fH_ne t (r := 2) (c := 45) rfl (by decide)]
        show fR (43 :: t) 2 3 = none
        rw [fR_step, fH_ne t (r := 3) (c := 126) rfl (by decide)]
        show fR (43 :: t) 1 4 = none
        rw [fR_step, fH_ne t (r := 4) (c := 63) rfl (by decide)]
        rfl
      cases fW t 4 1 with
      | none => exact n2
      | some k => rfl
    by_cases h2 : b = 45
    · subst h2
      refine doc_key (r := 2) rfl rfl ?_
      rw [fR_step, fH_ne t (r := 1) (c := 43) rfl (by decide)]
      show fR (45 :: t) 3 2 = _
      rw [fR_step, fH_eq t (r := 2) rfl]
      have n2 : fR (45 :: t) 2 3 = none := by
        rw [fR_step, fH_ne t (r := 3) (c := 126) rfl (by decide)]
        show fR (45 :: t) 1 4 = none
        rw [fR_step, fH_ne t (r := 4) (c := 63) rfl (by decide)]
        rfl
      cases fW t 4 1 with
      | none => exact n2
      | some k => rfl
    by_cases h3 : b = 126
    · subst h3
      refine doc_key (r := 3) rfl rfl ?_
      rw [fR_step, fH_ne t (r := 1) (c := 43) rfl (by decide)]
      show fR (126 :: t) 3 2 = _
      rw [fR_step, fH_ne t (r := 2) (c := 45) rfl (by decide)]
      show fR (126 :: t) 2 3 = _
      rw [fR_step, fH_eq t (r := 3) rfl]
      have n2 : fR (126 :: t) 1 4 = none := by
        rw [fR_step, fH_ne t (r := 4) (c := 63) rfl (by decide)]
        rfl
      cases fW t 4 1 with
      | none => exact n2
      | some k => rfl
    by_cases h4 : b = 63
    · subst h4
      refine doc_key (r := 4) rfl rfl ?_
      rw [fR_step, fH_ne t (r := 1) (c := 43) rfl (by decide)]
      show fR (63 :: t) 3 2 = _
      rw [fR_step, fH_ne t (r := 2) (c := 45) rfl (by decide)]
      show fR (63 :: t) 2 3 = _
      rw [fR_step, fH_ne t (r := 3) (c := 126) rfl (by decide)]
      show fR (63 :: t) 1 4 = _
      rw [fR_step, fH_eq t (r := 4) rfl]
      cases fW t 4 1 with
      | none => rfl
      | some k => rfl
    have f1 : (b == 43) = false := beq_eq_false_iff_ne.2 h1
    have f2 : (b == 45) = false := beq_eq_false_iff_ne.2 h2
    have f3 : (b == 126) = false := beq_eq_false_iff_ne.2 h3
    have f4 : (b == 63) = false := beq_eq_false_iff_ne.2 h4
    have ho : okRd (b :: t) = false := by
      unfold okRd kO
      rw [fK_bad (rO_none t f1 f2 f3 f4)]
      rfl
    rw [ho]
    refine ⟨?_, fun h => by cases h⟩
    unfold okDoc
    rw [fR_none t f1 f2 f3 f4]
    rfl
end Go.Proofs.YtegeegibnckkkaaDoor

/-
  A text in a list of texts (Has).
-/
namespace Go.Proofs.YtegeegibnckkkaaDoor
open Go.Ev

noncomputable def b17 : Code := ((Tryd.f17.body.map loopsOf).getD []).headD .skip
def isS (es : List AV) (d : List UInt8) (i : Nat) : Bool := strE (es.getD i .unk) == d
def hasN (es : List AV) (d : List UInt8) : Option Nat := findN (isS es d) es.length 0
def L17 : List AV → List (Option Row) → Tr LOut
  | [.slv .str es, .str d, .bool false, .int .i64 i], [] =>
    .gd (cnt es.length i es.length) (sT (isS es d) es.length
      (fun q => .leaf (.ret, [.slv .str es, .str d, .bool true, .int .i64 (q : Nat)], []))
      (.leaf (.exit 0, [.slv .str es, .str d, .bool false, .int .i64 es.length], [])) i.toNat)
  | _, _ => .no
def l17 : Ev.Loop := ⟨{ len := 18, slots := [0, 1, 4, 5] }, ofL L17⟩
def μ17 (vs : List AV) (_ : List (Option Row)) : Nat := match vs with
  | [.slv _ es, _, _, .int _ i] => ((es.length : Int) - i).toNat
  | _ => 0
theorem loop17 : LoopOK Tryd.prog G0 [(2, l17)] b17 l17 := by
  refine loopT g0.natOK rfl (KOK.nil (by kernel_rfl)) μ17 (fun ρ vs rs k r h => ?_)
  unfold L17 at h
  split at h
  · rename_i es d i
    obtain ⟨hc, hk⟩ := gd_some h
    obtain ⟨_, hs, j, rfl, hj⟩ := cnt_spec hc
    rw [Int.toNat_natCast] at hk
    refine Eq.trans (b := bif decide ((↑j : Int) < (↑es.length : Int)) then bif inb (↑j : Int) es.length then bif (strE (es.getD j AV.unk)) == d then k Ex.ret [AV.slv Sh.str es, AV.str d, AV.bool true, AV.int IntKind.i64 (↑j : Int)] [] else bif decide (((↑es.length : Int) - IntKind.i64.wrap ((↑j : Int) + (1 : Int))).toNat < ((↑es.length : Int) - (↑j : Int)).toNat) then bif cnt (↑es.length : Int) (IntKind.i64.wrap ((↑j : Int) + (1 : Int))) es.length then bif (findN (isS es d) es.length (IntKind.i64.wrap ((↑j : Int) + (1 : Int))).toNat).isSome then k Ex.ret [AV.slv Sh.str es, AV.str d, AV.bool true, AV.int IntKind.i64 (↑((findN (isS es d) es.length (IntKind.i64.wrap ((↑j : Int) + (1 : Int))).toNat).getD (0 : Nat)) : Int)] [] else k (Ex.exit (0 : Nat)) [AV.slv Sh.str es, AV.str d, AV.bool false, AV.int IntKind.i64 (↑es.length : Int)] [] else none else none else none else k (Ex.exit (0 : Nat)) [AV.slv Sh.str es, AV.str d, AV.bool false, AV.int IntKind.i64 (↑j : Int)] []) (by kernel_rfl) ?_
    rw [← hk]
    by_cases hlt : j < es.length
    · obtain ⟨e1, e2, e3, e4, e5⟩ := cnt_facts hlt hs
      have e7 : isS es d j = (strE (es.getD j .unk) == d) := rfl
      rw [sT_step _ _ _ _ _ hlt, e7]
      simp only [e1, e2, e3, e4, e5, cond_true, Int.toNat_natCast]
      cases strE (es.getD j .unk) == d <;> rfl
    · obtain rfl : j = es.length := by omega
      rw [decide_eq_false (by omega), sT_end]
      rfl
  · cases h
def F17 : List AV → Tr AV
  | [.slv .str es, .str d] => .gd (small es.length) (.leaf (.bool (hasN es d).isSome))
  | _ => .no
theorem ok17 : SumOK Tryd.prog 17 (ofT F17) ∧ SNat (ofT F17) := by
  refine fn1 (K := [(2, l17)]) (b := b17) (l := l17) g0 Tryd.func17 (by kernel_rfl) (by kernel_rfl) loop17 fun ρ avs k r h => ?_
  unfold F17 at h
  split at h
  · rename_i es d
    obtain ⟨hc, hk⟩ := gd_some h
    refine Eq.trans (b := bif cnt (↑es.length : Int) (0 : Int) es.length then bif (findN (isS es d) es.length (0 : Nat)).isSome then k (AV.bool true) else k (AV.bool false) else none) (by kernel_rfl) ?_
    rw [← hk, cnt_zero hc]
    show (bif (findN (isS es d) es.length 0).isSome then _ else _) = k (.bool (findN (isS es d) es.length 0).isSome)
    cases (findN (isS es d) es.length 0).isSome <;> rfl
  · cases h
end Go.Proofs.YtegeegibnckkkaaDoor

/-
  ParsedPolicy.
-/
namespace Go.Proofs.YtegeegibnckkkaaDoor
open Go.Ev

noncomputable def G10 : Env := { pure := [(29, ofT F29), (30, ofT F30), (16, ofT F16), (23, evF Tryd.prog G0 [] Tryd.f23)] }
theorem g10 : GOK Tryd.prog G10 := GOK.also (GOK.also (GOK.also (GOK.also g0 (inl g0 Tryd.func23 (by kernel_rfl))) ok16) ok30) ok29
noncomputable def b10 : Code := ((Tryd.f10.body.map loopsOf).getD []).headD .skip

def L10 : List AV → List (Option Row) → Tr LOut
  | [.ptr 0 0, .ptr 1 0, .slv .str ts, .ptr 388 0, .int .i64 i], [some (.box false [.str [], .slz (.agg [.int .i64, .int .i64, .str])]), some (.box false [.int .i64 0, .int .i64 0]), some (.box false [.str dom, .own 900]), some (.arr false (.agg [.int .i64, .int .i64, .str]) e es none)] =>
    .gd (cnt ts.length i ts.length && (Nat.beq e 42 && (decide (ts.length ≤ 10000 ∧ (es.length : Int) ≤ i) && ts.all fun t => decide ((strE t).length ≤ 100000)))) (sT (fun i => !okRd (strE (ts.getD i .unk))) ts.length
      (fun q => .leaf (.ret, [.ptr 0 0, .ptr 1 0, .slv .str ts, .ptr 388 0, .int .i64 (q : Nat)], [some (.box false [.str [], .slz sR]), some (.box false [.int .i64 11, .int .i64 ((q : Nat) - 1)]), some (.box false [.str dom, .own 900]), some (.arr false sR 42 (es ++ ((ts.drop i.toNat).take (q - i.toNat)).map rdE) none)]))
      (.leaf (.exit 0, [.ptr 0 0, .ptr 1 0, .slv .str ts, .ptr 388 0, .int .i64 ts.length], [some (.box false [.str [], .slz sR]), some (.box false [.int .i64 0, .int .i64 0]), some (.box false [.str dom, .own 900]), some (.arr false sR 42 (es ++ (ts.drop i.toNat).map rdE) none)])) i.toNat)
  | _, _ => .no
def l10 : Ev.Loop := ⟨{ len := 61, slots := [2, 3, 4, 5, 6], rows := [0, 1, 388, 900], cells := [(388, 1, 900, 42)] }, ofL L10⟩
def μ10 (vs : List AV) (_ : List (Option Row)) : Nat := match vs with
  | [_, _, .slv _ ts, _, .int _ i] => ((ts.length : Int) - i).toNat
  | _ => 0
theorem loop10 : LoopOK Tryd.prog G10 [(8, l10)] b10 l10 := by
  refine loopT g10.natOK rfl (KOK.nil (by kernel_rfl)) μ10 (fun ρ vs rs k r h => ?_)
  unfold L10 at h
  split at h
  · rename_i ts i dom e es
    obtain ⟨hc, hk⟩ := gd_some h
    simp only [Bool.and_eq_true] at hc
    obtain ⟨hc, he, hd, hS⟩ := hc
    obtain rfl := Nat.eq_of_beq_eq_true he
    obtain ⟨d1, d2⟩ := of_decide_eq_true hd
    obtain ⟨_, hs, j, rfl, hj⟩ := cnt_spec hc
    simp only [Int.toNat_natCast] at hk
    refine Eq.trans (b := bif decide ((↑j : Int) < (↑ts.length : Int)) then bif inb (↑j : Int) ts.length then bif decide ((strE (ts.getD j AV.unk)).length ≤ (100000 : Nat)) then bif (fR (strE (ts.getD j AV.unk)) (4 : Nat) (1 : Int)).isSome then bif !okDoc (strE (ts.getD j AV.unk)) then k Ex.ret [AV.ptr (0 : Nat) (0 : Nat), AV.ptr (1 : Nat) (0 : Nat), AV.slv Sh.str ts, AV.ptr (388 : Nat) (0 : Nat), AV.int IntKind.i64 (↑j : Int)] [some (Row.box false [AV.str [], AV.slz (Sh.agg [Sh.int IntKind.i64, Sh.int IntKind.i64, Sh.str])]), some (Row.box false [AV.int IntKind.i64 (11 : Int), AV.int IntKind.i64 (IntKind.i64.wrap ((↑j : Int) - (1 : Int)))]), some (Row.box false [AV.str dom, AV.own (900 : Nat)]), some (Row.arr false (Sh.agg [Sh.int IntKind.i64, Sh.int IntKind.i64, Sh.str]) (42 : Nat) es none)] else bif roomB (es.length + [AV.agg [AV.int IntKind.i64 ((fR (strE (ts.getD j AV.unk)) (4 : Nat) (1 : Int)).getD ((0 : Int), (0 : Int))).fst, AV.int IntKind.i64 ((fR (strE (ts.getD j AV.unk)) (4 : Nat) (1 : Int)).getD ((0 : Int), (0 : Int))).snd, AV.str (nmH ((fR (strE (ts.getD j AV.unk)) (4 : Nat) (1 : Int)).getD ((0 : Int), (0 : Int))).fst ((fR (strE (ts.getD j AV.unk)) (4 : Nat) (1 : Int)).getD ((0 : Int), (0 : Int))).snd (strE (ts.getD j AV.unk)))]].length) (Tryd.prog.bytesOf (42 : Nat)) then bif decide (((↑ts.length : Int) - IntKind.i64.wrap ((↑j : Int) + (1 : Int))).toNat < ((↑ts.length : Int) - (↑j : Int)).toNat) then bif cnt (↑ts.length : Int) (IntKind.i64.wrap ((↑j : Int) + (1 : Int))) ts.length && (Nat.beq (42 : Nat) (42 : Nat) && (decide (ts.length ≤ (10000 : Nat) ∧ (↑(es ++ [AV.agg [AV.int IntKind.i64 ((fR (strE (ts.getD j AV.unk)) (4 : Nat) (1 : Int)).getD ((0 : Int), (0 : Int))).fst, AV.int IntKind.i64 ((fR (strE (ts.getD j AV.unk)) (4 : Nat) (1 : Int)).getD ((0 : Int), (0 : Int))).snd, AV.str (nmH ((fR (strE (ts.getD j AV.unk)) (4 : Nat) (1 : Int)).getD ((0 : Int), (0 : Int))).fst ((fR (strE (ts.getD j AV.unk)) (4 : Nat) (1 : Int)).getD ((0 : Int), (0 : Int))).snd (strE (ts.getD j AV.unk)))]]).length : Int) ≤ IntKind.i64.wrap ((↑j : Int) + (1 : Int))) && ts.all fun t => decide ((strE t).length ≤ (100000 : Nat)))) then bif (findN (fun i => !okRd (strE (ts.getD i AV.unk))) ts.length (IntKind.i64.wrap ((↑j : Int) + (1 : Int))).toNat).isSome then k Ex.ret [AV.ptr (0 : Nat) (0 : Nat), AV.ptr (1 : Nat) (0 : Nat), AV.slv Sh.str ts, AV.ptr (388 : Nat) (0 : Nat), AV.int IntKind.i64 (↑((findN (fun i => !okRd (strE (ts.getD i AV.unk))) ts.length (IntKind.i64.wrap ((↑j : Int) + (1 : Int))).toNat).getD (0 : Nat)) : Int)] [some (Row.box false [AV.str [], AV.slz (Sh.agg [Sh.int IntKind.i64, Sh.int IntKind.i64, Sh.str])]), some (Row.box false [AV.int IntKind.i64 (11 : Int), AV.int IntKind.i64 ((↑((findN (fun i => !okRd (strE (ts.getD i AV.unk))) ts.length (IntKind.i64.wrap ((↑j : Int) + (1 : Int))).toNat).getD (0 : Nat)) : Int) - (1 : Int))]), some (Row.box false [AV.str dom, AV.own (900 : Nat)]), some (Row.arr false (Sh.agg [Sh.int IntKind.i64, Sh.int IntKind.i64, Sh.str]) (42 : Nat) (es ++ [AV.agg [AV.int IntKind.i64 ((fR (strE (ts.getD j AV.unk)) (4 : Nat) (1 : Int)).getD ((0 : Int), (0 : Int))).fst, AV.int IntKind.i64 ((fR (strE (ts.getD j AV.unk)) (4 : Nat) (1 : Int)).getD ((0 : Int), (0 : Int))).snd, AV.str (nmH ((fR (strE (ts.getD j AV.unk)) (4 : Nat) (1 : Int)).getD ((0 : Int), (0 : Int))).fst ((fR (strE (ts.getD j AV.unk)) (4 : Nat) (1 : Int)).getD ((0 : Int), (0 : Int))).snd (strE (ts.getD j AV.unk)))]] ++ List.map rdE (List.take ((findN (fun i => !okRd (strE (ts.getD i AV.unk))) ts.length (IntKind.i64.wrap ((↑j : Int) + (1 : Int))).toNat).getD (0 : Nat) - (IntKind.i64.wrap ((↑j : Int) + (1 : Int))).toNat) (List.drop (IntKind.i64.wrap ((↑j : Int) + (1 : Int))).toNat ts))) none)] else k (Ex.exit (0 : Nat)) [AV.ptr (0 : Nat) (0 : Nat), AV.ptr (1 : Nat) (0 : Nat), AV.slv Sh.str ts, AV.ptr (388 : Nat) (0 : Nat), AV.int IntKind.i64 (↑ts.length : Int)] [some (Row.box false [AV.str [], AV.slz (Sh.agg [Sh.int IntKind.i64, Sh.int IntKind.i64, Sh.str])]), some (Row.box false [AV.int IntKind.i64 (0 : Int), AV.int IntKind.i64 (0 : Int)]), some (Row.box false [AV.str dom, AV.own (900 : Nat)]), some (Row.arr false (Sh.agg [Sh.int IntKind.i64, Sh.int IntKind.i64, Sh.str]) (42 : Nat) (es ++ [AV.agg [AV.int IntKind.i64 ((fR (strE (ts.getD j AV.unk)) (4 : Nat) (1 : Int)).getD ((0 : Int), (0 : Int))).fst, AV.int IntKind.i64 ((fR (strE (ts.getD j AV.unk)) (4 : Nat) (1 : Int)).getD ((0 : Int), (0 : Int))).snd, AV.str (nmH ((fR (strE (ts.getD j AV.unk)) (4 : Nat) (1 : Int)).getD ((0 : Int), (0 : Int))).fst ((fR (strE (ts.getD j AV.unk)) (4 : Nat) (1 : Int)).getD ((0 : Int), (0 : Int))).snd (strE (ts.getD j AV.unk)))]] ++ List.map rdE (List.drop (IntKind.i64.wrap ((↑j : Int) + (1 : Int))).toNat ts)) none)] else none else none else none else k Ex.ret [AV.ptr (0 : Nat) (0 : Nat), AV.ptr (1 : Nat) (0 : Nat), AV.slv Sh.str ts, AV.ptr (388 : Nat) (0 : Nat), AV.int IntKind.i64 (↑j : Int)] [some (Row.box false [AV.str [], AV.slz (Sh.agg [Sh.int IntKind.i64, Sh.int IntKind.i64, Sh.str])]), some (Row.box false [AV.int IntKind.i64 (11 : Int), AV.int IntKind.i64 (IntKind.i64.wrap ((↑j : Int) - (1 : Int)))]), some (Row.box false [AV.str dom, AV.own (900 : Nat)]), some (Row.arr false (Sh.agg [Sh.int IntKind.i64, Sh.int IntKind.i64, Sh.str]) (42 : Nat) es none)] else none else none else k (Ex.exit (0 : Nat)) [AV.ptr (0 : Nat) (0 : Nat), AV.ptr (1 : Nat) (0 : Nat), AV.slv Sh.str ts, AV.ptr (388 : Nat) (0 : Nat), AV.int IntKind.i64 (↑j : Int)] [some (Row.box false [AV.str [], AV.slz (Sh.agg [Sh.int IntKind.i64, Sh.int IntKind.i64, Sh.str])]), some (Row.box false [AV.int IntKind.i64 (0 : Int), AV.int IntKind.i64 (0 : Int)]), some (Row.box false [AV.str dom, AV.own (900 : Nat)]), some (Row.arr false (Sh.agg [Sh.int IntKind.i64, Sh.int IntKind.i64, Sh.str]) (42 : Nat) es none)]) (by kernel_rfl) ?_
    rw [← hk]
    have b42 : Tryd.prog.bytesOf 42 ≤ 1000 := of_decide_eq_true (by kernel_rfl)
    by_cases hlt : j < ts.length
    · obtain ⟨e1, e2, e3, e4, e5⟩ := cnt_facts hlt hs
      have e6 : decide ((strE (ts.getD j .unk)).length ≤ 100000) = true := List.all_eq_true.1 hS (ts.getD j .unk) (by rw [getD_eq hlt]; exact List.getElem_mem hlt)
      have hrd : AV.agg [AV.int IntKind.i64 ((fR (strE (ts.getD j AV.unk)) 4 1).getD (0, 0)).fst, AV.int IntKind.i64 ((fR (strE (ts.getD j AV.unk)) 4 1).getD (0, 0)).snd, AV.str (nmH ((fR (strE (ts.getD j AV.unk)) 4 1).getD (0, 0)).fst ((fR (strE (ts.getD j AV.unk)) 4 1).getD (0, 0)).snd (strE (ts.getD j AV.unk)))] = rdDoc (strE (ts.getD j .unk)) := rfl
      have w1 : IntKind.i64.wrap ((j : Int) - 1) = (j : Int) - 1 := wrap_mid _ (by omega) (by omega)
      have e7 : roomB (es.length + [rdDoc (strE (ts.getD j .unk))].length) (Tryd.prog.bytesOf 42) = true := roomB_small (by show es.length + 1 ≤ _; omega) b42
      have e8 : (cnt ts.length ((j + 1 : Nat) : Int) ts.length && (Nat.beq 42 42 && (decide (ts.length ≤ 10000 ∧ ((es ++ [rdDoc (strE (ts.getD j .unk))]).length : Int) ≤ ((j + 1 : Nat) : Int)) && ts.all fun t => decide ((strE t).length ≤ 100000)))) = true := and_t e4 (and_t rfl (and_t (decide_eq_true (by rw [List.length_append]; exact ⟨d1, by show ((es.length + 1 : Nat) : Int) ≤ _; omega⟩)) hS))
      obtain ⟨q1, q2⟩ := doc_eq (strE (ts.getD j .unk))
      rw [sT_step _ _ _ _ _ hlt]
      simp only [e1, e2, e3, e5, e6, hrd, w1, e7, e8, cond_true, Int.toNat_natCast]
      cases ho : okRd (strE (ts.getD j .unk))
      · rw [q1, ho]
        cases (fR (strE (ts.getD j .unk)) 4 1).isSome
        · show k _ _ [_, _, _, some (Row.arr false sR 42 es none)] = k _ _ [_, _, _, some (Row.arr false sR 42 (es ++ ((ts.drop j).take (j - j)).map rdE) none)]
          rw [Nat.sub_self, List.take_zero, List.map_nil, List.append_nil]
          rfl
        · show k _ _ [_, _, _, some (Row.arr false sR 42 es none)] = k _ _ [_, _, _, some (Row.arr false sR 42 (es ++ ((ts.drop j).take (j - j)).map rdE) none)]
          rw [Nat.sub_self, List.take_zero, List.map_nil, List.append_nil]
          rfl
      · have hsome : (fR (strE (ts.getD j .unk)) 4 1).isSome = true := by
          have := q1.trans ho
          unfold okDoc at this
          simp only [Bool.and_eq_true] at this
          exact this.1
        have hr : rdDoc (strE (ts.getD j .unk)) = rdE (ts.getD j .unk) := q2 ho
        rw [hsome, q1, ho, hr]
        unfold sT
        rw [drop_getD hlt]
        cases hf : findN (fun i => !okRd (strE (ts.getD i .unk))) ts.length (j + 1) with
        | none =>
          simp only [List.append_assoc]
          rfl
        | some q =>
          obtain ⟨hq, _⟩ := findN_some hf
          simp only [List.append_assoc]
          have : ∀ l : List AV, (ts.getD j .unk :: l).take (q - j) = ts.getD j .unk :: l.take (q - (j + 1)) := fun l => by
            rw [show q - j = (q - (j + 1)) + 1 from by omega, List.take_succ_cons]
          show k _ _ _ = k _ _ [_, _, _, some (Row.arr false sR 42 (es ++ ((ts.getD j .unk :: ts.drop (j + 1)).take (q - j)).map rdE) none)]
          rw [this]
          rfl
    · obtain rfl : j = ts.length := by omega
      rw [decide_eq_false (by omega), sT_end, List.drop_length]
      show k _ _ [_, _, _, some (Row.arr false sR 42 es none)] = k _ _ [_, _, _, some (Row.arr false sR 42 (es ++ []) none)]
      rw [List.append_nil]
      rfl
  · cases h
theorem findN_shift (p : Nat → Bool) (n : Nat) : ∀ (m i : Nat), n - i = m → findN p (n + 1) (i + 1) = (findN (fun j => p (j + 1)) n i).map (· + 1)
  | 0, i, h => by rw [findN_end _ _ _ (by omega), findN_end _ _ _ (by omega)]; rfl
  | m + 1, i, h => by
    rw [findN_step _ _ _ (by omega), findN_step _ n i (by omega), findN_shift p n m (i + 1) (by omega)]
    cases p (i + 1) <;> rfl
theorem bad_shift (ts : List AV) (h : 1 ≤ ts.length) : findN (fun i => !okRd (strE (ts.getD i .unk))) ts.length 1 = (badL (ts.drop 1) 0).map (· + 1) := by
  match ts, h with
  | t :: ts, _ =>
    show findN _ (ts.length + 1) (0 + 1) = _
    rw [findN_shift _ _ _ 0 rfl]
    rfl
theorem ok10 : SumOK Tryd.prog 10 (ofT F9) ∧ SNat (ofT F9) := by
  refine fn1 (K := [(8, l10)]) (b := b10) (l := l10) g10 Tryd.func10 (by kernel_rfl) (by kernel_rfl) loop10 fun ρ avs k r h => ?_
  unfold F9 at h
  split at h
  · rename_i s
    have hk := h
    refine Eq.trans (b := bif decide ((↑s.length : Int) > (4000 : Int)) then k (AV.tup [AV.agg [AV.str [], AV.slv (Sh.agg [Sh.int IntKind.i64, Sh.int IntKind.i64, Sh.str]) []], AV.agg [AV.int IntKind.i64 (1 : Int), AV.int IntKind.i64 (-1 : Int)]]) else bif decide (s.length ≤ (100000 : Nat)) then bif inb (0 : Int) (partsB (32 : UInt8) s).length then bif small (strE ((partsB (32 : UInt8) s).getD (0 : Nat) AV.unk)).length then bif !nmS (strE ((partsB (32 : UInt8) s).getD (0 : Nat) AV.unk)) then k (AV.tup [AV.agg [AV.str [], AV.slv (Sh.agg [Sh.int IntKind.i64, Sh.int IntKind.i64, Sh.str]) []], AV.agg [AV.int IntKind.i64 (10 : Int), AV.int IntKind.i64 (-2 : Int)]]) else bif inb (0 : Int) (partsB (32 : UInt8) s).length then bif cnt (↑(partsB (32 : UInt8) s).length : Int) (1 : Int) (partsB (32 : UInt8) s).length && (Nat.beq ((388 : Nat), (1 : Nat), (900 : Nat), (42 : TypeId)).snd.snd.snd (42 : Nat) && (decide ((partsB (32 : UInt8) s).length ≤ (10000 : Nat) ∧ (↑([] : List AV).length : Int) ≤ (1 : Int)) && (partsB (32 : UInt8) s).all fun t => decide ((strE t).length ≤ (100000 : Nat)))) then bif (findN (fun i => !okRd (strE ((partsB (32 : UInt8) s).getD i AV.unk))) (partsB (32 : UInt8) s).length (Int.toNat (1 : Int))).isSome then k (AV.tup [AV.agg [AV.str [], AV.slv (Sh.agg [Sh.int IntKind.i64, Sh.int IntKind.i64, Sh.str]) []], AV.agg [AV.int IntKind.i64 (11 : Int), AV.int IntKind.i64 ((↑((findN (fun i => !okRd (strE ((partsB (32 : UInt8) s).getD i AV.unk))) (partsB (32 : UInt8) s).length (Int.toNat (1 : Int))).getD (0 : Nat)) : Int) - (1 : Int))]]) else bif decide ((↑([] ++ List.map rdE (List.drop (Int.toNat (1 : Int)) (partsB (32 : UInt8) s))).length : Int) > (60 : Int)) then k (AV.tup [AV.agg [AV.str [], AV.slv (Sh.agg [Sh.int IntKind.i64, Sh.int IntKind.i64, Sh.str]) []], AV.agg [AV.int IntKind.i64 (2 : Int), AV.int IntKind.i64 (-1 : Int)]]) else k (AV.tup [AV.agg [AV.str (strE ((partsB (32 : UInt8) s).getD (0 : Nat) AV.unk)), AV.slv (Sh.agg [Sh.int IntKind.i64, Sh.int IntKind.i64, Sh.str]) ([] ++ List.map rdE (List.drop (Int.toNat (1 : Int)) (partsB (32 : UInt8) s)))], AV.agg [AV.int IntKind.i64 (0 : Int), AV.int IntKind.i64 (0 : Int)]]) else none else none else none else none else none) (by kernel_rfl) ?_
    rw [← hk]
    by_cases h4 : (s.length : Int) > 4000
    · rw [decide_eq_true h4]
      rfl
    · obtain ⟨p1, p2⟩ := parts_len 32 s
      have ps := parts_small 32 s
      have h0 : (strE ((partsB 32 s).getD 0 .unk)).length ≤ s.length := ps _ (by rw [getD_eq (show 0 < (partsB 32 s).length by omega)]; exact List.getElem_mem _)
      have g1 : (cnt ((partsB 32 s).length : Int) 1 (partsB 32 s).length && (Nat.beq (388, 1, 900, (42 : TypeId)).2.2.2 42 && (decide ((partsB 32 s).length ≤ 10000 ∧ (([] : List AV).length : Int) ≤ 1) && (partsB 32 s).all fun t => decide ((strE t).length ≤ 100000)))) = true :=
        and_t (and_tt (decide_eq_true rfl) (and_tt (decide_eq_true (by omega)) (and_tt (decide_eq_true (by omega)) (decide_eq_true (by omega))))) (and_t rfl (and_t (decide_eq_true ⟨by omega, by show (0 : Int) ≤ 1; omega⟩) (List.all_eq_true.2 fun t ht => decide_eq_true (by have := ps t ht; omega))))
      have hb : findN (fun i => !okRd (strE ((partsB 32 s).getD i .unk))) (partsB 32 s).length (Int.toNat 1) = (badL ((partsB 32 s).drop 1) 0).map (· + 1) := bad_shift _ p1
      rw [g1, decide_eq_false h4, show decide (s.length ≤ 100000) = true from decide_eq_true (by omega), show inb 0 (partsB 32 s).length = true from inb_true (by omega) (by omega), show small (strE ((partsB 32 s).getD 0 .unk)).length = true from decide_eq_true (by omega), hb, List.nil_append, List.length_map, show decide (((List.drop (Int.toNat 1) (partsB 32 s)).length : Int) > 60) = decide (((partsB 32 s).drop 1).length > 60) from decide_eq_decide.2 (by show (((partsB 32 s).drop 1).length : Int) > 60 ↔ _; omega)]
      show (bif !nmS (strE ((partsB 32 s).getD 0 .unk)) then _ else _) = (bif !nmS (strE ((partsB 32 s).getD 0 .unk)) then _ else _)
      cases badL ((partsB 32 s).drop 1) 0 with
      | none => rfl
      | some q =>
        show (bif !nmS (strE ((partsB 32 s).getD 0 .unk)) then _ else k (.tup [polV [] [], .agg [.int .i64 11, .int .i64 (((q + 1 : Nat) : Int) - 1)]])) = (bif !nmS (strE ((partsB 32 s).getD 0 .unk)) then _ else k (.tup [polV [] [], .agg [.int .i64 11, .int .i64 (q : Nat)]]))
        rw [show ((q + 1 : Nat) : Int) - 1 = (q : Nat) by omega]
        rfl
  · cases h
end Go.Proofs.YtegeegibnckkkaaDoor

/-
  The loops over policies: the program's and the document's.
-/
namespace Go.Proofs.YtegeegibnckkkaaDoor
open Go.Ev

theorem findN_congr {p q : Nat → Bool} {n : Nat} : ∀ (m i : Nat), n - i = m → (∀ j, j < n → p j = q j) → findN p n i = findN q n i := by
  intro m
  induction m with
  | zero => exact fun i hm _ => by rw [findN_end p n i (by omega), findN_end q n i (by omega)]
  | succ m ih => exact fun i hm h => by rw [findN_step p n i (by omega), findN_step q n i (by omega), h i (by omega), ih (i + 1) (by omega) h]
def smP (es : List AV) : Bool := es.all fun e => small (pS e).length && (small (pR e).length && smR (pR e))
theorem smP_at {es : List AV} (h : smP es = true) {i : Nat} (hi : i < es.length) : small (pS (es.getD i .unk)).length = true ∧ small (pR (es.getD i .unk)).length = true ∧ smR (pR (es.getD i .unk)) = true := by
  have := List.all_eq_true.1 h (es.getD i .unk) (by rw [getD_eq hi]; exact List.getElem_mem hi)
  simpa only [Bool.and_eq_true] using this
def pf (e : AV) : Int × Int := polF (pS e) (pR e)
theorem dup_take (es : List AV) (d : List UInt8) {i : Nat} (hi : i ≤ es.length) : fP d (es.take i) 0 = findN (fun k => isP d (es.getD k .unk)) i 0 := by
  unfold fP
  rw [List.length_take, Nat.min_eq_left hi]
  refine findN_congr i 0 (by omega) fun j hj => ?_
  rw [List.getD_eq_getElem?_getD, List.getD_eq_getElem?_getD, List.getElem?_take, if_pos hj]
theorem iZ_ge (x : Option Nat) : decide (iZ x ≥ 0) = x.isSome := by
  cases x with
  | none => rfl
  | some n => exact decide_eq_true (by show (0 : Int) ≤ (n : Int); omega)
def dupQ (es es' : List AV) (i : Nat) : Bool := (findN (fun k => isP (pS (es'.getD i .unk)) (es.getD k .unk)) i 0).isSome
def codeQ (es es' : List AV) (i : Nat) : Int := bif (pf (es'.getD i .unk)).1 != 0 then (pf (es'.getD i .unk)).1 else bif dupQ es es' i then 7 else 0
def codeP (es : List AV) (i : Nat) : Int := codeQ es es i
noncomputable def G13 : Env := { pure := [(33, ofT F33), (20, ofT F20), (21, ofT F20), (16, ofT F16), (26, ofT F16), (34, evF Tryd.prog G0 [] Tryd.f34), (23, evF Tryd.prog G0 [] Tryd.f23), (24, evF Tryd.prog G0 [] Tryd.f24), (28, evF Tryd.prog G0 [] Tryd.f28), (32, evF Tryd.prog G0 [] Tryd.f32), (45, ofT F45)] }
theorem g13 : GOK Tryd.prog G13 := GOK.also (GOK.also (GOK.also (GOK.also (GOK.also (GOK.also (GOK.also (GOK.also (GOK.also (GOK.also (GOK.also g0 ok45) (inl g0 Tryd.func32 (by kernel_rfl))) (inl g0 Tryd.func28 (by kernel_rfl))) (inl g0 Tryd.func24 (by kernel_rfl))) (inl g0 Tryd.func23 (by kernel_rfl))) (inl g0 Tryd.func34 (by kernel_rfl))) ok26') ok16) ok21) ok20) ok33
noncomputable def b13 : Code := ((Tryd.f13.body.map loopsOf).getD []).headD .skip
def L13 : List AV → List (Option Row) → Tr LOut
  | [.slv (.agg [.str, .slice (.agg [.int .i64, .int .i64, .str])]) es, .str d, .str h, .int .i64 0, .ptr 1 0, .slv (.agg [.str, .slice (.agg [.int .i64, .int .i64, .str])]) es', .int .i64 n, .int .i64 i], [some (.box false [.int .i64 0, .int .i64 0])] =>
    .gd (cnt n i es.length && (decide (es.length ≤ 60) && (smP es' && Nat.beq es'.length es.length))) (sT (fun i => codeQ es es' i != 0) es.length (fun q => .leaf (.ret, [.slv sP es, .str d, .str h, .int .i64 0, .ptr 1 0, .slv sP es', .int .i64 es.length, .int .i64 (q : Nat)], [some (.box false [.int .i64 (codeQ es es' q), .int .i64 (q : Int)])]))
     (.leaf (.exit 0, [.slv sP es, .str d, .str h, .int .i64 0, .ptr 1 0, .slv sP es', .int .i64 es.length, .int .i64 es.length], [some (.box false [.int .i64 0, .int .i64 0])])) i.toNat)
  | _, _ => .no
def l13 : Ev.Loop := ⟨{ len := 57, slots := [0, 1, 2, 6, 7, 17, 18, 19], rows := [1] }, ofL L13⟩
def μ13 (vs : List AV) (_ : List (Option Row)) : Nat := match vs with
  | [_, _, _, _, _, _, .int _ n, .int _ i] => (n - i).toNat
  | _ => 0
noncomputable def b14 : Code := ((Tryd.f14.body.map loopsOf).getD []).headD .skip
noncomputable def c14 : Code := ((Tryd.f14.body.map loopsOf).getD []).tail.headD .skip
def M14 : List AV → List (Option Row) → Tr LOut
  | [.slv (.agg [.str, .slice (.agg [.int .i64, .int .i64, .str])]) es, .str d, .str h, .ptr 0 0, .int .i64 i, .int .i64 q], [some (.box false [.int .i64 0, .int .i64 0])] =>
    .gd (cnt i q i.toNat && decide (i.toNat < es.length)) (sT (fun k => isP (pS (es.getD i.toNat .unk)) (es.getD k .unk)) i.toNat (fun q => .leaf (.ret, [.slv sP es, .str d, .str h, .ptr 0 0, .int .i64 i, .int .i64 (q : Nat)], [some (.box false [.int .i64 7, .int .i64 i])]))
     (.leaf (.exit 2, [.slv sP es, .str d, .str h, .ptr 0 0, .int .i64 i, .int .i64 i], [some (.box false [.int .i64 0, .int .i64 0])])) q.toNat)
  | _, _ => .no
def m14 : Ev.Loop := ⟨{ len := 59, slots := [0, 1, 2, 6, 7, 9], rows := [0] }, ofL M14⟩
def L14 : List AV → List (Option Row) → Tr LOut
  | [.slv (.agg [.str, .slice (.agg [.int .i64, .int .i64, .str])]) es, .str d, .str h, .ptr 0 0, .int .i64 i], [some (.box false [.int .i64 0, .int .i64 0])] =>
    .gd (cnt es.length i es.length && (decide (es.length ≤ 60) && smP es)) (sT (fun i => codeP es i != 0) es.length (fun q => .leaf (.ret, [.slv sP es, .str d, .str h, .ptr 0 0, .int .i64 (q : Nat)], [some (.box false [.int .i64 (codeP es q), .int .i64 (q : Int)])]))
     (.leaf (.exit 0, [.slv sP es, .str d, .str h, .ptr 0 0, .int .i64 es.length], [some (.box false [.int .i64 0, .int .i64 0])])) i.toNat)
  | _, _ => .no
def l14 : Ev.Loop := ⟨{ len := 59, slots := [0, 1, 2, 6, 7], rows := [0] }, ofL L14⟩
def μ14 (vs : List AV) (_ : List (Option Row)) : Nat := match vs with
  | [.slv _ es, _, _, _, .int _ i] => ((es.length : Int) - i).toNat
  | _ => 0
def μ14b (vs : List AV) (_ : List (Option Row)) : Nat := match vs with
  | [_, _, _, _, .int _ i, .int _ q] => (i - q).toNat
  | _ => 0
theorem loop14b : LoopOK Tryd.prog G13 [(4, l14), (10, m14)] c14 m14 := by
  refine loopT g13.natOK rfl (KOK.nil (by kernel_rfl)) μ14b (fun ρ vs rs k r h => ?_)
  unfold M14 at h
  split at h
  · rename_i es d h0 i q
    obtain ⟨hc, hk⟩ := gd_some h
    simp only [Bool.and_eq_true] at hc
    obtain ⟨hc, hG⟩ := hc
    have hG' := of_decide_eq_true hG
    obtain ⟨hi, hs, j, rfl, hj⟩ := cnt_spec hc
    obtain ⟨i, rfl⟩ : ∃ m : Nat, i = m := ⟨i.toNat, hi⟩
    simp only [Int.toNat_natCast] at hk hG' hG hj hs
    refine Eq.trans (b := bif decide ((↑j : Int) < (↑i : Int)) then bif inb (↑j : Int) es.length then bif inb (↑i : Int) es.length then bif (pS (es.getD j AV.unk)) == (pS (es.getD i AV.unk)) then k Ex.ret [AV.slv (Sh.agg [Sh.str, (Sh.agg [Sh.int IntKind.i64, Sh.int IntKind.i64, Sh.str]).slice]) es, AV.str d, AV.str h0, AV.ptr (0 : Nat) (0 : Nat), AV.int IntKind.i64 (↑i : Int), AV.int IntKind.i64 (↑j : Int)] [some (Row.box false [AV.int IntKind.i64 (7 : Int), AV.int IntKind.i64 (↑i : Int)])] else bif decide (((↑i : Int) - IntKind.i64.wrap ((↑j : Int) + (1 : Int))).toNat < ((↑i : Int) - (↑j : Int)).toNat) then bif cnt (↑i : Int) (IntKind.i64.wrap ((↑j : Int) + (1 : Int))) i && decide (i < es.length) then bif (findN (fun k => isP (pS (es.getD i AV.unk)) (es.getD k AV.unk)) i (IntKind.i64.wrap ((↑j : Int) + (1 : Int))).toNat).isSome then k Ex.ret [AV.slv (Sh.agg [Sh.str, (Sh.agg [Sh.int IntKind.i64, Sh.int IntKind.i64, Sh.str]).slice]) es, AV.str d, AV.str h0, AV.ptr (0 : Nat) (0 : Nat), AV.int IntKind.i64 (↑i : Int), AV.int IntKind.i64 (↑((findN (fun k => isP (pS (es.getD i AV.unk)) (es.getD k AV.unk)) i (IntKind.i64.wrap ((↑j : Int) + (1 : Int))).toNat).getD (0 : Nat)) : Int)] [some (Row.box false [AV.int IntKind.i64 (7 : Int), AV.int IntKind.i64 (↑i : Int)])] else k (Ex.exit (2 : Nat)) [AV.slv (Sh.agg [Sh.str, (Sh.agg [Sh.int IntKind.i64, Sh.int IntKind.i64, Sh.str]).slice]) es, AV.str d, AV.str h0, AV.ptr (0 : Nat) (0 : Nat), AV.int IntKind.i64 (↑i : Int), AV.int IntKind.i64 (↑i : Int)] [some (Row.box false [AV.int IntKind.i64 (0 : Int), AV.int IntKind.i64 (0 : Int)])] else none else none else none else none else k (Ex.exit (2 : Nat)) [AV.slv (Sh.agg [Sh.str, (Sh.agg [Sh.int IntKind.i64, Sh.int IntKind.i64, Sh.str]).slice]) es, AV.str d, AV.str h0, AV.ptr (0 : Nat) (0 : Nat), AV.int IntKind.i64 (↑i : Int), AV.int IntKind.i64 (↑j : Int)] [some (Row.box false [AV.int IntKind.i64 (0 : Int), AV.int IntKind.i64 (0 : Int)])]) (by kernel_rfl) ?_
    rw [← hk]
    by_cases hlt : j < i
    · obtain ⟨e1, e2, e3, e4, e5⟩ := cnt_facts hlt hs
      rw [sT_step _ _ _ _ _ hlt]
      have e6 : inb (j : Int) es.length = true := inb_true (by omega) (by omega)
      have e7 : inb (i : Int) es.length = true := inb_true (by omega) (by omega)
      have e8 : isP (pS (es.getD i .unk)) (es.getD j .unk) = (pS (es.getD j .unk) == pS (es.getD i .unk)) := rfl
      simp only [e1, e3, e4, e5, e6, e7, e8, hG, cond_true, Int.toNat_natCast, Bool.and_self]
      generalize (pS (es.getD j .unk) == pS (es.getD i .unk)) = a1
      cases a1 <;> rfl
    · obtain rfl : j = i := by omega
      rw [decide_eq_false (by omega), sT_end]
      rfl
  · cases h
theorem loop14 : LoopOK Tryd.prog G13 [(4, l14), (10, m14)] b14 l14 := by
  refine loopT g13.natOK rfl (KOK.one (by kernel_rfl) (by kernel_rfl) loop14b) μ14 (fun ρ vs rs k r h => ?_)
  unfold L14 at h
  split at h
  · rename_i es d h0 i
    obtain ⟨hc, hk⟩ := gd_some h
    simp only [Bool.and_eq_true] at hc
    obtain ⟨hc, hG, hS⟩ := hc
    have hG' := of_decide_eq_true hG
    obtain ⟨_, hs, j, rfl, hj⟩ := cnt_spec hc
    rw [Int.toNat_natCast] at hk
    refine Eq.trans (b := bif decide ((↑j : Int) < (↑es.length : Int)) then bif inb (↑j : Int) es.length then bif small (pS (es.getD j AV.unk)).length && (small (pR (es.getD j AV.unk)).length && smR (pR (es.getD j AV.unk))) then bif (polF (pS (es.getD j AV.unk)) (pR (es.getD j AV.unk))).fst != (0 : Int) then k Ex.ret [AV.slv (Sh.agg [Sh.str, (Sh.agg [Sh.int IntKind.i64, Sh.int IntKind.i64, Sh.str]).slice]) es, AV.str d, AV.str h0, AV.ptr (0 : Nat) (0 : Nat), AV.int IntKind.i64 (↑j : Int)] [some (Row.box false [AV.int IntKind.i64 (polF (pS (es.getD j AV.unk)) (pR (es.getD j AV.unk))).fst, AV.int IntKind.i64 (↑j : Int)])] else bif cnt (↑j : Int) (0 : Int) j && decide (j < es.length) then bif (findN (fun k => isP (pS (es.getD j AV.unk)) (es.getD k AV.unk)) j (0 : Nat)).isSome then k Ex.ret [AV.slv (Sh.agg [Sh.str, (Sh.agg [Sh.int IntKind.i64, Sh.int IntKind.i64, Sh.str]).slice]) es, AV.str d, AV.str h0, AV.ptr (0 : Nat) (0 : Nat), AV.int IntKind.i64 (↑j : Int)] [some (Row.box false [AV.int IntKind.i64 (7 : Int), AV.int IntKind.i64 (↑j : Int)])] else bif decide (((↑es.length : Int) - IntKind.i64.wrap ((↑j : Int) + (1 : Int))).toNat < ((↑es.length : Int) - (↑j : Int)).toNat) then bif cnt (↑es.length : Int) (IntKind.i64.wrap ((↑j : Int) + (1 : Int))) es.length && (decide (es.length ≤ (60 : Nat)) && smP es) then bif (findN (fun i => codeP es i != (0 : Int)) es.length (IntKind.i64.wrap ((↑j : Int) + (1 : Int))).toNat).isSome then k Ex.ret [AV.slv (Sh.agg [Sh.str, (Sh.agg [Sh.int IntKind.i64, Sh.int IntKind.i64, Sh.str]).slice]) es, AV.str d, AV.str h0, AV.ptr (0 : Nat) (0 : Nat), AV.int IntKind.i64 (↑((findN (fun i => codeP es i != (0 : Int)) es.length (IntKind.i64.wrap ((↑j : Int) + (1 : Int))).toNat).getD (0 : Nat)) : Int)] [some (Row.box false [AV.int IntKind.i64 (codeP es ((findN (fun i => codeP es i != (0 : Int)) es.length (IntKind.i64.wrap ((↑j : Int) + (1 : Int))).toNat).getD (0 : Nat))), AV.int IntKind.i64 (↑((findN (fun i => codeP es i != (0 : Int)) es.length (IntKind.i64.wrap ((↑j : Int) + (1 : Int))).toNat).getD (0 : Nat)) : Int)])] else k (Ex.exit (0 : Nat)) [AV.slv (Sh.agg [Sh.str, (Sh.agg [Sh.int IntKind.i64, Sh.int IntKind.i64, Sh.str]).slice]) es, AV.str d, AV.str h0, AV.ptr (0 : Nat) (0 : Nat), AV.int IntKind.i64 (↑es.length : Int)] [some (Row.box false [AV.int IntKind.i64 (0 : Int), AV.int IntKind.i64 (0 : Int)])] else none else none else none else none else none else k (Ex.exit (0 : Nat)) [AV.slv (Sh.agg [Sh.str, (Sh.agg [Sh.int IntKind.i64, Sh.int IntKind.i64, Sh.str]).slice]) es, AV.str d, AV.str h0, AV.ptr (0 : Nat) (0 : Nat), AV.int IntKind.i64 (↑j : Int)] [some (Row.box false [AV.int IntKind.i64 (0 : Int), AV.int IntKind.i64 (0 : Int)])]) (by kernel_rfl) ?_
    rw [← hk]
    by_cases hlt : j < es.length
    · obtain ⟨e1, e2, e3, e4, e5⟩ := cnt_facts hlt hs
      rw [sT_step _ _ _ _ _ hlt]
      obtain ⟨s1, s2, s3⟩ := smP_at hS hlt
      have e6 : (cnt (j : Int) 0 j && decide (j < es.length)) = true := and_t (cnt_zero (decide_eq_true (by omega))) (decide_eq_true hlt)
      have e9 : codeP es j = bif (polF (pS (es.getD j .unk)) (pR (es.getD j .unk))).1 != 0 then (polF (pS (es.getD j .unk)) (pR (es.getD j .unk))).1 else bif (findN (fun k => isP (pS (es.getD j .unk)) (es.getD k .unk)) j 0).isSome then 7 else 0 := rfl
      simp only [e1, e2, e3, e4, e5, e6, e9, s1, s2, s3, hG, hS, cond_true, Int.toNat_natCast, Bool.and_self]
      generalize (findN (fun k => isP (pS (es.getD j .unk)) (es.getD k .unk)) j 0).isSome = a2
      cases hp : (polF (pS (es.getD j .unk)) (pR (es.getD j .unk))).1 != 0
      · cases a2 <;> rfl
      · simp only [cond_true, hp]
        rfl
    · obtain rfl : j = es.length := by omega
      rw [decide_eq_false (by omega), sT_end]
      rfl
  · cases h
def badP (es : List AV) : Option Nat := findN (fun i => codeP es i != 0) es.length 0
def polsF (es : List AV) (d h : List UInt8) : Int × Int := bif decide ((es.length : Int) > 60) then (2, -1) else bif (badP es).isSome then (codeP es ((badP es).getD 0), (((badP es).getD 0 : Nat) : Int)) else bif !nmS d then (10, -2) else bif !nmS h then (10, -3) else (0, 0)
def F14 : List AV → Tr AV
  | [.slv (.agg [.str, .slice (.agg [.int .i64, .int .i64, .str])]) es, .str d, .str h] => .gd (small es.length && (smP es && (small d.length && small h.length))) (.leaf (fault (polsF es d h)))
  | _ => .no
theorem ok14 : SumOK Tryd.prog 14 (ofT F14) ∧ SNat (ofT F14) := by
  refine fnT (K := [(4, l14), (10, m14)]) (bs := [b14, c14]) g13 Tryd.func14 (by kernel_rfl) (fun b hb => ?_) fun ρ avs k r h => ?_
  · rcases List.mem_cons.1 hb with rfl | hb
    · exact ⟨l14, by kernel_rfl, loop14⟩
    · rcases List.mem_cons.1 hb with rfl | hb
      · exact ⟨m14, by kernel_rfl, loop14b⟩
      · cases hb
  unfold F14 at h
  split at h
  · rename_i es d h0
    obtain ⟨hc, hk⟩ := gd_some h
    simp only [Bool.and_eq_true] at hc
    obtain ⟨h1, h2, h3, h4⟩ := hc
    refine Eq.trans (b := bif decide ((↑es.length : Int) > (60 : Int)) then k (AV.agg [AV.int IntKind.i64 (2 : Int), AV.int IntKind.i64 (-1 : Int)]) else bif cnt (↑es.length : Int) (0 : Int) es.length && (decide (es.length ≤ (60 : Nat)) && smP es) then bif (findN (fun i => codeP es i != (0 : Int)) es.length (0 : Nat)).isSome then k (AV.agg [AV.int IntKind.i64 (codeP es ((findN (fun i => codeP es i != (0 : Int)) es.length (0 : Nat)).getD (0 : Nat))), AV.int IntKind.i64 (↑((findN (fun i => codeP es i != (0 : Int)) es.length (0 : Nat)).getD (0 : Nat)) : Int)]) else bif small d.length then bif !nmS d then k (AV.agg [AV.int IntKind.i64 (10 : Int), AV.int IntKind.i64 (-2 : Int)]) else bif small h0.length then bif !nmS h0 then k (AV.agg [AV.int IntKind.i64 (10 : Int), AV.int IntKind.i64 (-3 : Int)]) else k (AV.agg [AV.int IntKind.i64 (0 : Int), AV.int IntKind.i64 (0 : Int)]) else none else none else none) (by kernel_rfl) ?_
    rw [← hk]
    rw [cnt_zero h1, h2, h3, h4, Bool.true_and, Bool.and_true]
    unfold polsF
    show (bif decide ((es.length : Int) > 60) then _ else bif decide (es.length ≤ 60) then bif (badP es).isSome then k (.agg [.int .i64 (codeP es ((badP es).getD 0)), .int .i64 (((badP es).getD 0 : Nat) : Int)]) else _ else _) = _
    by_cases hl : (es.length : Int) > 60
    · rw [decide_eq_true hl]; rfl
    · rw [decide_eq_false hl, decide_eq_true (by omega : es.length ≤ 60)]
      cases (badP es).isSome
      · cases nmS d <;> cases nmS h0 <;> rfl
      · rfl
  · cases h
end Go.Proofs.YtegeegibnckkkaaDoor

namespace Go.Proofs.YtegeegibnckkkaaDoor
open Go.Ev

def sufB (h t : List UInt8) : Bool := decide (t.length ≤ h.length) && (h.drop (h.length - t.length) == t)
def F56 : List AV → Tr AV
  | [.str hh, .str t] => .gd (small hh.length && small t.length) (.leaf (.bool (sufB hh t)))
  | _ => .no
theorem ok56 : SumOK Tryd.prog 56 (ofT F56) ∧ SNat (ofT F56) := by
  refine fn0 g0 Tryd.func56 (by kernel_rfl) fun ρ avs k r h => ?_
  unfold F56 at h
  split at h
  · rename_i hh t
    obtain ⟨hc, hk⟩ := gd_some h
    refine Eq.trans (b := bif decide ((↑hh.length : Int) ≥ (↑t.length : Int)) then bif slb (IntKind.i64.wrap ((↑hh.length : Int) - (↑t.length : Int))) (↑hh.length : Int) hh.length then k (AV.bool (List.take ((↑hh.length : Int).toNat - (IntKind.i64.wrap ((↑hh.length : Int) - (↑t.length : Int))).toNat) (List.drop (IntKind.i64.wrap ((↑hh.length : Int) - (↑t.length : Int))).toNat hh) == t)) else none else k (AV.bool false)) (by kernel_rfl) ?_
    rw [← hk]
    have hc' := hc
    simp only [Bool.and_eq_true] at hc'
    obtain ⟨h1, h2⟩ := hc'
    have h1 := small_le h1
    have h2 := small_le h2
    unfold sufB
    by_cases hl : t.length ≤ hh.length
    · rw [wrap_small _ (by omega) (by omega), decide_eq_true (by omega : (hh.length : Int) ≥ (t.length : Int)), decide_eq_true hl, slb_true (by omega) (by omega) (by omega), Int.toNat_natCast]
      rw [show ((hh.length : Int) - (t.length : Int)).toNat = hh.length - t.length from by omega, List.take_of_length_le (by rw [List.length_drop]; omega)]
      rfl
    · rw [decide_eq_false (by omega : ¬ (hh.length : Int) ≥ (t.length : Int)), decide_eq_false hl]
      rfl
  · cases h
noncomputable def G47 : Env := { pure := [(56, ofT F56)] }
theorem g47 : GOK Tryd.prog G47 := GOK.also g0 ok56
def F47 : List AV → Tr AV
  | [.str hh, .str t] => .gd (small hh.length && small t.length) (.leaf (.bool (sufB hh t)))
  | _ => .no
theorem ok47 : SumOK Tryd.prog 47 (ofT F47) ∧ SNat (ofT F47) := by
  refine fn0 g47 Tryd.func47 (by kernel_rfl) fun ρ avs k r h => ?_
  unfold F47 at h
  split at h
  · rename_i hh t
    obtain ⟨hc, hk⟩ := gd_some h
    refine Eq.trans (b := bif small hh.length && small t.length then k (AV.bool (sufB hh t)) else none) (by kernel_rfl) ?_
    rw [← hk, hc]; rfl
  · cases h
def apB (host : List UInt8) (e : AV) : Bool := (rK e == 1 || host == rS e) || (rK e == 3 && sufB host (46 :: rS e))
def ruleO (f : List UInt8 → Int → Int × Int) (host : List UInt8) : List AV → Nat → Int → Option (Int × Nat) × Int
  | [], _, l => (none, l)
  | e :: rs, i, l => bif rK e == 4 then (bif (f (rS e) l).1 == 0 || (f (rS e) l).1 == 5 then (some (5, i), (f (rS e) l).2) else bif (f (rS e) l).1 == 1 then (some (rR e, i), (f (rS e) l).2) else ruleO f host rs (i + 1) (f (rS e) l).2) else bif apB host e then (some (rR e, i), l) else ruleO f host rs (i + 1) l
def resN (es : List AV) (host : List UInt8) : Nat → List UInt8 → Int → Int × Int
  | 0, _, l => (5, l + 1)
  | n + 1, d, l => bif decide (l + 1 > 10) then (5, l + 1) else
    match fP d es 0 with
    | none => (0, l + 1)
    | some i => let x := ruleO (resN es host n) host (pR (es.getD i .unk)) 0 (l + 1)
      ((x.1.getD (4, 0)).1, x.2)
def smQ (es : List AV) : Bool := es.all fun e => small (pR e).length && (pR e).all fun r => decide ((rS r).length ≤ 1000)
def gRes (n : Nat) (es : List AV) (host : List UInt8) (l : Int) : Bool := decide (0 ≤ l ∧ l ≤ 10 ∧ 11 - l ≤ n) && (small es.length && (smQ es && decide (host.length ≤ 1000)))
theorem ruleO_cons (f : List UInt8 → Int → Int × Int) (host : List UInt8) (e : AV) (rs : List AV) (i : Nat) (l : Int) : ruleO f host (e :: rs) i l = bif rK e == 4 then (bif (f (rS e) l).1 == 0 || (f (rS e) l).1 == 5 then (some (5, i), (f (rS e) l).2) else bif (f (rS e) l).1 == 1 then (some (rR e, i), (f (rS e) l).2) else ruleO f host rs (i + 1) (f (rS e) l).2) else bif apB host e then (some (rR e, i), l) else ruleO f host rs (i + 1) l := rfl
theorem ruleO_spec {f : List UInt8 → Int → Int × Int} {host : List UInt8} (hf : ∀ d l, 0 ≤ l → l ≤ 10 → l + 1 ≤ (f d l).2 ∧ ((f d l).1 ≠ 5 → (f d l).2 ≤ 10)) : ∀ (rs : List AV) (i : Nat) (l : Int), 0 ≤ l → l ≤ 10 → l ≤ (ruleO f host rs i l).2 ∧ (((ruleO f host rs i l).1.getD (4, 0)).1 ≠ 5 → (ruleO f host rs i l).2 ≤ 10)
  | [], _, l, _, h => ⟨Int.le_refl _, fun _ => h⟩
  | e :: rs, i, l, h0, h => by
    obtain ⟨f1, f2⟩ := hf (rS e) l h0 h
    rw [ruleO_cons]
    generalize f (rS e) l = X at f1 f2
    cases rK e == 4
    · cases apB host e
      · exact ruleO_spec hf rs (i + 1) l h0 h
      · exact ⟨Int.le_refl _, fun _ => h⟩
    · cases h0' : X.1 == 0
      · cases h5 : X.1 == 5
        · have n5 : X.1 ≠ 5 := by intro h; rw [h] at h5; cases h5
          cases X.1 == 1
          · obtain ⟨i1, i2⟩ := ruleO_spec hf rs (i + 1) X.2 (by omega) (f2 n5)
            exact ⟨by show l ≤ (ruleO f host rs (i + 1) X.2).2; omega, i2⟩
          · exact ⟨by show l ≤ X.2; omega, fun _ => f2 n5⟩
        · exact ⟨by show l ≤ X.2; omega, fun h => absurd rfl h⟩
      · exact ⟨by show l ≤ X.2; omega, fun h => absurd rfl h⟩
theorem res_spec {es : List AV} {host : List UInt8} : ∀ (n : Nat) (d : List UInt8) (l : Int), 0 ≤ l → l ≤ 10 → l + 1 ≤ (resN es host n d l).2 ∧ ((resN es host n d l).1 ≠ 5 → (resN es host n d l).2 ≤ 10)
  | 0, d, l, _, h => ⟨Int.le_refl _, fun h => absurd rfl h⟩
  | n + 1, d, l, h0, h => by
    unfold resN
    by_cases hl : l + 1 > 10
    · rw [decide_eq_true hl]; exact ⟨Int.le_refl _, fun h => absurd rfl h⟩
    · rw [decide_eq_false hl]
      cases fP d es 0 with
      | none => exact ⟨Int.le_refl _, fun _ => by show l + 1 ≤ 10; omega⟩
      | some i => exact ruleO_spec (res_spec n) _ 0 (l + 1) (by omega) (by omega)
theorem gRes_of {n : Nat} {es : List AV} {host : List UInt8} {l : Int} (h : gRes n es host l = true) : (0 ≤ l ∧ l ≤ 10 ∧ 11 - l ≤ n) ∧ small es.length = true ∧ smQ es = true ∧ host.length ≤ 1000 := by
  unfold gRes at h
  simp only [Bool.and_eq_true] at h
  exact ⟨of_decide_eq_true h.1, h.2.1, h.2.2.1, of_decide_eq_true h.2.2.2⟩
theorem gRes_to {n : Nat} {es : List AV} {host : List UInt8} {l : Int} (h : 0 ≤ l ∧ l ≤ 10 ∧ 11 - l ≤ n) (h1 : small es.length = true) (h2 : smQ es = true) (h3 : host.length ≤ 1000) : gRes n es host l = true := by
  unfold gRes
  exact and_t (decide_eq_true h) (and_t h1 (and_t h2 (decide_eq_true h3)))
def F35 (n : Nat) : List AV → List Row → Tr XOut
  | [.ptr p 0, .str d], [.box false [.slv (.agg [.str, .slice (.agg [.int .i64, .int .i64, .str])]) es, .str host, .int .i64 l]] => .gd (Nat.beq p PID && gRes n es host l) (.leaf (.int .i64 (resN es host n d l).1, [some (.box false [.slv sP es, .str host, .int .i64 (resN es host n d l).2])], []))
  | _, _ => .no
noncomputable def G35 (n : Nat) : Env := { pure := [(45, ofT F45), (46, evF Tryd.prog G0 [] Tryd.f46), (47, ofT F47)], opens := [(35, ofX (F35 n))] }
noncomputable def b35 : Code := ((Tryd.f35.body.map loopsOf).getD []).headD .skip
def L35 (n : Nat) : List AV → List (Option Row) → Tr LOut
  | [.ptr p 0, .int .i64 0, .slv (.agg [.int .i64, .int .i64, .str]) rs, .int .i64 m, .int .i64 i], [some (.box false [.slv (.agg [.str, .slice (.agg [.int .i64, .int .i64, .str])]) es, .str host, .int .i64 l])] =>
    .gd (Nat.beq p PID && (cnt m i rs.length && (gRes n es host l && rs.all fun r => decide ((rS r).length ≤ 1000)))) (.br (ruleO (resN es host n) host (rs.drop i.toNat) i.toNat l).1.isSome
     (.leaf (.ret, [.ptr PID 0, .int .i64 ((ruleO (resN es host n) host (rs.drop i.toNat) i.toNat l).1.getD (0, 0)).1, .slv sR rs, .int .i64 rs.length, .int .i64 (((ruleO (resN es host n) host (rs.drop i.toNat) i.toNat l).1.getD (0, 0)).2 : Nat)], [some (.box false [.slv sP es, .str host, .int .i64 (ruleO (resN es host n) host (rs.drop i.toNat) i.toNat l).2])]))
     (.leaf (.exit 0, [.ptr PID 0, .int .i64 0, .slv sR rs, .int .i64 rs.length, .int .i64 rs.length], [some (.box false [.slv sP es, .str host, .int .i64 (ruleO (resN es host n) host (rs.drop i.toNat) i.toNat l).2])])))
  | _, _ => .no
def l35 (n : Nat) : Ev.Loop := ⟨{ len := 88, slots := [0, 4, 37, 38, 39], rows := [PID] }, ofL (L35 n)⟩
def μ35 (vs : List AV) (_ : List (Option Row)) : Nat := match vs with
  | [_, _, _, .int _ n, .int _ i] => (n - i).toNat
  | _ => 0
theorem loop35 {n : Nat} (g : GOK Tryd.prog (G35 n)) : LoopOK Tryd.prog (G35 n) [(8, l35 n)] b35 (l35 n) := by
  refine loopT g.natOK rfl (KOK.nil (by kernel_rfl)) μ35 (fun ρ vs rs k r h => ?_)
  unfold L35 at h
  split at h
  · rename_i p rs m i es host l
    obtain ⟨hc, hk⟩ := gd_some h
    simp only [Bool.and_eq_true] at hc
    obtain ⟨hp, hc, hg, hS⟩ := hc
    obtain rfl := Nat.eq_of_beq_eq_true hp
    clear hp
    obtain ⟨rfl, hs, j, rfl, hj⟩ := cnt_spec hc
    rw [Int.toNat_natCast] at hk
    refine Eq.trans (b := bif decide ((↑j : Int) < (↑rs.length : Int)) then bif inb (↑j : Int) rs.length then bif (rK (rs.getD j AV.unk)) == (1 : Int) then bif (rK (rs.getD j AV.unk)) == (3 : Int) then k Ex.ret [AV.ptr (1125899906842624 : Nat) (0 : Nat), AV.int IntKind.i64 (rR (rs.getD j AV.unk)), AV.slv (Sh.agg [Sh.int IntKind.i64, Sh.int IntKind.i64, Sh.str]) rs, AV.int IntKind.i64 (↑rs.length : Int), AV.int IntKind.i64 (↑j : Int)] [some (Row.box false [AV.slv (Sh.agg [Sh.str, (Sh.agg [Sh.int IntKind.i64, Sh.int IntKind.i64, Sh.str]).slice]) es, AV.str host, AV.int IntKind.i64 l])] else bif (rK (rs.getD j AV.unk)) == (4 : Int) then bif ((fun x => PID + x) (0 : Nat)).beq PID && gRes n es host l then bif (resN es host n (rS (rs.getD j AV.unk)) l).fst == (0 : Int) then k Ex.ret [AV.ptr (1125899906842624 : Nat) (0 : Nat), AV.int IntKind.i64 (5 : Int), AV.slv (Sh.agg [Sh.int IntKind.i64, Sh.int IntKind.i64, Sh.str]) rs, AV.int IntKind.i64 (↑rs.length : Int), AV.int IntKind.i64 (↑j : Int)] [some (Row.box false [AV.slv (Sh.agg [Sh.str, (Sh.agg [Sh.int IntKind.i64, Sh.int IntKind.i64, Sh.str]).slice]) es, AV.str host, AV.int IntKind.i64 (resN es host n (rS (rs.getD j AV.unk)) l).snd])] else bif (resN es host n (rS (rs.getD j AV.unk)) l).fst == (5 : Int) then k Ex.ret [AV.ptr (1125899906842624 : Nat) (0 : Nat), AV.int IntKind.i64 (5 : Int), AV.slv (Sh.agg [Sh.int IntKind.i64, Sh.int IntKind.i64, Sh.str]) rs, AV.int IntKind.i64 (↑rs.length : Int), AV.int IntKind.i64 (↑j : Int)] [some (Row.box false [AV.slv (Sh.agg [Sh.str, (Sh.agg [Sh.int IntKind.i64, Sh.int IntKind.i64, Sh.str]).slice]) es, AV.str host, AV.int IntKind.i64 (resN es host n (rS (rs.getD j AV.unk)) l).snd])] else bif (resN es host n (rS (rs.getD j AV.unk)) l).fst == (1 : Int) then k Ex.ret [AV.ptr (1125899906842624 : Nat) (0 : Nat), AV.int IntKind.i64 (rR (rs.getD j AV.unk)), AV.slv (Sh.agg [Sh.int IntKind.i64, Sh.int IntKind.i64, Sh.str]) rs, AV.int IntKind.i64 (↑rs.length : Int), AV.int IntKind.i64 (↑j : Int)] [some (Row.box false [AV.slv (Sh.agg [Sh.str, (Sh.agg [Sh.int IntKind.i64, Sh.int IntKind.i64, Sh.str]).slice]) es, AV.str host, AV.int IntKind.i64 (resN es host n (rS (rs.getD j AV.unk)) l).snd])] else bif decide (((↑rs.length : Int) - IntKind.i64.wrap ((↑j : Int) + (1 : Int))).toNat < ((↑rs.length : Int) - (↑j : Int)).toNat) then bif PID.beq PID && (cnt (↑rs.length : Int) (IntKind.i64.wrap ((↑j : Int) + (1 : Int))) rs.length && (gRes n es host (resN es host n (rS (rs.getD j AV.unk)) l).snd && rs.all fun r => decide ((rS r).length ≤ (1000 : Nat)))) then bif (ruleO (resN es host n) host (List.drop (IntKind.i64.wrap ((↑j : Int) + (1 : Int))).toNat rs) (IntKind.i64.wrap ((↑j : Int) + (1 : Int))).toNat (resN es host n (rS (rs.getD j AV.unk)) l).snd).fst.isSome then k Ex.ret [AV.ptr (1125899906842624 : Nat) (0 : Nat), AV.int IntKind.i64 ((ruleO (resN es host n) host (List.drop (IntKind.i64.wrap ((↑j : Int) + (1 : Int))).toNat rs) (IntKind.i64.wrap ((↑j : Int) + (1 : Int))).toNat (resN es host n (rS (rs.getD j AV.unk)) l).snd).fst.getD ((0 : Int), (0 : Nat))).fst, AV.slv (Sh.agg [Sh.int IntKind.i64, Sh.int IntKind.i64, Sh.str]) rs, AV.int IntKind.i64 (↑rs.length : Int), AV.int IntKind.i64 (↑((ruleO (resN es host n) host (List.drop (IntKind.i64.wrap ((↑j : Int) + (1 : Int))).toNat rs) (IntKind.i64.wrap ((↑j : Int) + (1 : Int))).toNat (resN es host n (rS (rs.getD j AV.unk)) l).snd).fst.getD ((0 : Int), (0 : Nat))).snd : Int)] [some (Row.box false [AV.slv (Sh.agg [Sh.str, (Sh.agg [Sh.int IntKind.i64, Sh.int IntKind.i64, Sh.str]).slice]) es, AV.str host, AV.int IntKind.i64 (ruleO (resN es host n) host (List.drop (IntKind.i64.wrap ((↑j : Int) + (1 : Int))).toNat rs) (IntKind.i64.wrap ((↑j : Int) + (1 : Int))).toNat (resN es host n (rS (rs.getD j AV.unk)) l).snd).snd])] else k (Ex.exit (0 : Nat)) [AV.ptr (1125899906842624 : Nat) (0 : Nat), AV.int IntKind.i64 (0 : Int), AV.slv (Sh.agg [Sh.int IntKind.i64, Sh.int IntKind.i64, Sh.str]) rs, AV.int IntKind.i64 (↑rs.length : Int), AV.int IntKind.i64 (↑rs.length : Int)] [some (Row.box false [AV.slv (Sh.agg [Sh.str, (Sh.agg [Sh.int IntKind.i64, Sh.int IntKind.i64, Sh.str]).slice]) es, AV.str host, AV.int IntKind.i64 (ruleO (resN es host n) host (List.drop (IntKind.i64.wrap ((↑j : Int) + (1 : Int))).toNat rs) (IntKind.i64.wrap ((↑j : Int) + (1 : Int))).toNat (resN es host n (rS (rs.getD j AV.unk)) l).snd).snd])] else none else none else none else k Ex.ret [AV.ptr (1125899906842624 : Nat) (0 : Nat), AV.int IntKind.i64 (rR (rs.getD j AV.unk)), AV.slv (Sh.agg [Sh.int IntKind.i64, Sh.int IntKind.i64, Sh.str]) rs, AV.int IntKind.i64 (↑rs.length : Int), AV.int IntKind.i64 (↑j : Int)] [some (Row.box false [AV.slv (Sh.agg [Sh.str, (Sh.agg [Sh.int IntKind.i64, Sh.int IntKind.i64, Sh.str]).slice]) es, AV.str host, AV.int IntKind.i64 l])] else bif (rK (rs.getD j AV.unk)) == (3 : Int) then bif host == (rS (rs.getD j AV.unk)) then k Ex.ret [AV.ptr (1125899906842624 : Nat) (0 : Nat), AV.int IntKind.i64 (rR (rs.getD j AV.unk)), AV.slv (Sh.agg [Sh.int IntKind.i64, Sh.int IntKind.i64, Sh.str]) rs, AV.int IntKind.i64 (↑rs.length : Int), AV.int IntKind.i64 (↑j : Int)] [some (Row.box false [AV.slv (Sh.agg [Sh.str, (Sh.agg [Sh.int IntKind.i64, Sh.int IntKind.i64, Sh.str]).slice]) es, AV.str host, AV.int IntKind.i64 l])] else bif lenB (([(46 : UInt8)] : List UInt8).length + (rS (rs.getD j AV.unk)).length) then bif small host.length && small (([(46 : UInt8)] : List UInt8) ++ (rS (rs.getD j AV.unk))).length then bif sufB host (([(46 : UInt8)] : List UInt8) ++ (rS (rs.getD j AV.unk))) then k Ex.ret [AV.ptr (1125899906842624 : Nat) (0 : Nat), AV.int IntKind.i64 (rR (rs.getD j AV.unk)), AV.slv (Sh.agg [Sh.int IntKind.i64, Sh.int IntKind.i64, Sh.str]) rs, AV.int IntKind.i64 (↑rs.length : Int), AV.int IntKind.i64 (↑j : Int)] [some (Row.box false [AV.slv (Sh.agg [Sh.str, (Sh.agg [Sh.int IntKind.i64, Sh.int IntKind.i64, Sh.str]).slice]) es, AV.str host, AV.int IntKind.i64 l])] else bif decide (((↑rs.length : Int) - IntKind.i64.wrap ((↑j : Int) + (1 : Int))).toNat < ((↑rs.length : Int) - (↑j : Int)).toNat) then bif PID.beq PID && (cnt (↑rs.length : Int) (IntKind.i64.wrap ((↑j : Int) + (1 : Int))) rs.length && (gRes n es host l && rs.all fun r => decide ((rS r).length ≤ (1000 : Nat)))) then bif (ruleO (resN es host n) host (List.drop (IntKind.i64.wrap ((↑j : Int) + (1 : Int))).toNat rs) (IntKind.i64.wrap ((↑j : Int) + (1 : Int))).toNat l).fst.isSome then k Ex.ret [AV.ptr (1125899906842624 : Nat) (0 : Nat), AV.int IntKind.i64 ((ruleO (resN es host n) host (List.drop (IntKind.i64.wrap ((↑j : Int) + (1 : Int))).toNat rs) (IntKind.i64.wrap ((↑j : Int) + (1 : Int))).toNat l).fst.getD ((0 : Int), (0 : Nat))).fst, AV.slv (Sh.agg [Sh.int IntKind.i64, Sh.int IntKind.i64, Sh.str]) rs, AV.int IntKind.i64 (↑rs.length : Int), AV.int IntKind.i64 (↑((ruleO (resN es host n) host (List.drop (IntKind.i64.wrap ((↑j : Int) + (1 : Int))).toNat rs) (IntKind.i64.wrap ((↑j : Int) + (1 : Int))).toNat l).fst.getD ((0 : Int), (0 : Nat))).snd : Int)] [some (Row.box false [AV.slv (Sh.agg [Sh.str, (Sh.agg [Sh.int IntKind.i64, Sh.int IntKind.i64, Sh.str]).slice]) es, AV.str host, AV.int IntKind.i64 (ruleO (resN es host n) host (List.drop (IntKind.i64.wrap ((↑j : Int) + (1 : Int))).toNat rs) (IntKind.i64.wrap ((↑j : Int) + (1 : Int))).toNat l).snd])] else k (Ex.exit (0 : Nat)) [AV.ptr (1125899906842624 : Nat) (0 : Nat), AV.int IntKind.i64 (0 : Int), AV.slv (Sh.agg [Sh.int IntKind.i64, Sh.int IntKind.i64, Sh.str]) rs, AV.int IntKind.i64 (↑rs.length : Int), AV.int IntKind.i64 (↑rs.length : Int)] [some (Row.box false [AV.slv (Sh.agg [Sh.str, (Sh.agg [Sh.int IntKind.i64, Sh.int IntKind.i64, Sh.str]).slice]) es, AV.str host, AV.int IntKind.i64 (ruleO (resN es host n) host (List.drop (IntKind.i64.wrap ((↑j : Int) + (1 : Int))).toNat rs) (IntKind.i64.wrap ((↑j : Int) + (1 : Int))).toNat l).snd])] else none else none else none else none else bif (rK (rs.getD j AV.unk)) == (4 : Int) then bif ((fun x => PID + x) (0 : Nat)).beq PID && gRes n es host l then bif (resN es host n (rS (rs.getD j AV.unk)) l).fst == (0 : Int) then k Ex.ret [AV.ptr (1125899906842624 : Nat) (0 : Nat), AV.int IntKind.i64 (5 : Int), AV.slv (Sh.agg [Sh.int IntKind.i64, Sh.int IntKind.i64, Sh.str]) rs, AV.int IntKind.i64 (↑rs.length : Int), AV.int IntKind.i64 (↑j : Int)] [some (Row.box false [AV.slv (Sh.agg [Sh.str, (Sh.agg [Sh.int IntKind.i64, Sh.int IntKind.i64, Sh.str]).slice]) es, AV.str host, AV.int IntKind.i64 (resN es host n (rS (rs.getD j AV.unk)) l).snd])] else bif (resN es host n (rS (rs.getD j AV.unk)) l).fst == (5 : Int) then k Ex.ret [AV.ptr (1125899906842624 : Nat) (0 : Nat), AV.int IntKind.i64 (5 : Int), AV.slv (Sh.agg [Sh.int IntKind.i64, Sh.int IntKind.i64, Sh.str]) rs, AV.int IntKind.i64 (↑rs.length : Int), AV.int IntKind.i64 (↑j : Int)] [some (Row.box false [AV.slv (Sh.agg [Sh.str, (Sh.agg [Sh.int IntKind.i64, Sh.int IntKind.i64, Sh.str]).slice]) es, AV.str host, AV.int IntKind.i64 (resN es host n (rS (rs.getD j AV.unk)) l).snd])] else bif (resN es host n (rS (rs.getD j AV.unk)) l).fst == (1 : Int) then k Ex.ret [AV.ptr (1125899906842624 : Nat) (0 : Nat), AV.int IntKind.i64 (rR (rs.getD j AV.unk)), AV.slv (Sh.agg [Sh.int IntKind.i64, Sh.int IntKind.i64, Sh.str]) rs, AV.int IntKind.i64 (↑rs.length : Int), AV.int IntKind.i64 (↑j : Int)] [some (Row.box false [AV.slv (Sh.agg [Sh.str, (Sh.agg [Sh.int IntKind.i64, Sh.int IntKind.i64, Sh.str]).slice]) es, AV.str host, AV.int IntKind.i64 (resN es host n (rS (rs.getD j AV.unk)) l).snd])] else bif decide (((↑rs.length : Int) - IntKind.i64.wrap ((↑j : Int) + (1 : Int))).toNat < ((↑rs.length : Int) - (↑j : Int)).toNat) then bif PID.beq PID && (cnt (↑rs.length : Int) (IntKind.i64.wrap ((↑j : Int) + (1 : Int))) rs.length && (gRes n es host (resN es host n (rS (rs.getD j AV.unk)) l).snd && rs.all fun r => decide ((rS r).length ≤ (1000 : Nat)))) then bif (ruleO (resN es host n) host (List.drop (IntKind.i64.wrap ((↑j : Int) + (1 : Int))).toNat rs) (IntKind.i64.wrap ((↑j : Int) + (1 : Int))).toNat (resN es host n (rS (rs.getD j AV.unk)) l).snd).fst.isSome then k Ex.ret [AV.ptr (1125899906842624 : Nat) (0 : Nat), AV.int IntKind.i64 ((ruleO (resN es host n) host (List.drop (IntKind.i64.wrap ((↑j : Int) + (1 : Int))).toNat rs) (IntKind.i64.wrap ((↑j : Int) + (1 : Int))).toNat (resN es host n (rS (rs.getD j AV.unk)) l).snd).fst.getD ((0 : Int), (0 : Nat))).fst, AV.slv (Sh.agg [Sh.int IntKind.i64, Sh.int IntKind.i64, Sh.str]) rs, AV.int IntKind.i64 (↑rs.length : Int), AV.int IntKind.i64 (↑((ruleO (resN es host n) host (List.drop (IntKind.i64.wrap ((↑j : Int) + (1 : Int))).toNat rs) (IntKind.i64.wrap ((↑j : Int) + (1 : Int))).toNat (resN es host n (rS (rs.getD j AV.unk)) l).snd).fst.getD ((0 : Int), (0 : Nat))).snd : Int)] [some (Row.box false [AV.slv (Sh.agg [Sh.str, (Sh.agg [Sh.int IntKind.i64, Sh.int IntKind.i64, Sh.str]).slice]) es, AV.str host, AV.int IntKind.i64 (ruleO (resN es host n) host (List.drop (IntKind.i64.wrap ((↑j : Int) + (1 : Int))).toNat rs) (IntKind.i64.wrap ((↑j : Int) + (1 : Int))).toNat (resN es host n (rS (rs.getD j AV.unk)) l).snd).snd])] else k (Ex.exit (0 : Nat)) [AV.ptr (1125899906842624 : Nat) (0 : Nat), AV.int IntKind.i64 (0 : Int), AV.slv (Sh.agg [Sh.int IntKind.i64, Sh.int IntKind.i64, Sh.str]) rs, AV.int IntKind.i64 (↑rs.length : Int), AV.int IntKind.i64 (↑rs.length : Int)] [some (Row.box false [AV.slv (Sh.agg [Sh.str, (Sh.agg [Sh.int IntKind.i64, Sh.int IntKind.i64, Sh.str]).slice]) es, AV.str host, AV.int IntKind.i64 (ruleO (resN es host n) host (List.drop (IntKind.i64.wrap ((↑j : Int) + (1 : Int))).toNat rs) (IntKind.i64.wrap ((↑j : Int) + (1 : Int))).toNat (resN es host n (rS (rs.getD j AV.unk)) l).snd).snd])] else none else none else none else bif host == (rS (rs.getD j AV.unk)) then k Ex.ret [AV.ptr (1125899906842624 : Nat) (0 : Nat), AV.int IntKind.i64 (rR (rs.getD j AV.unk)), AV.slv (Sh.agg [Sh.int IntKind.i64, Sh.int IntKind.i64, Sh.str]) rs, AV.int IntKind.i64 (↑rs.length : Int), AV.int IntKind.i64 (↑j : Int)] [some (Row.box false [AV.slv (Sh.agg [Sh.str, (Sh.agg [Sh.int IntKind.i64, Sh.int IntKind.i64, Sh.str]).slice]) es, AV.str host, AV.int IntKind.i64 l])] else bif decide (((↑rs.length : Int) - IntKind.i64.wrap ((↑j : Int) + (1 : Int))).toNat < ((↑rs.length : Int) - (↑j : Int)).toNat) then bif PID.beq PID && (cnt (↑rs.length : Int) (IntKind.i64.wrap ((↑j : Int) + (1 : Int))) rs.length && (gRes n es host l && rs.all fun r => decide ((rS r).length ≤ (1000 : Nat)))) then bif (ruleO (resN es host n) host (List.drop (IntKind.i64.wrap ((↑j : Int) + (1 : Int))).toNat rs) (IntKind.i64.wrap ((↑j : Int) + (1 : Int))).toNat l).fst.isSome then k Ex.ret [AV.ptr (1125899906842624 : Nat) (0 : Nat), AV.int IntKind.i64 ((ruleO (resN es host n) host (List.drop (IntKind.i64.wrap ((↑j : Int) + (1 : Int))).toNat rs) (IntKind.i64.wrap ((↑j : Int) + (1 : Int))).toNat l).fst.getD ((0 : Int), (0 : Nat))).fst, AV.slv (Sh.agg [Sh.int IntKind.i64, Sh.int IntKind.i64, Sh.str]) rs, AV.int IntKind.i64 (↑rs.length : Int), AV.int IntKind.i64 (↑((ruleO (resN es host n) host (List.drop (IntKind.i64.wrap ((↑j : Int) + (1 : Int))).toNat rs) (IntKind.i64.wrap ((↑j : Int) + (1 : Int))).toNat l).fst.getD ((0 : Int), (0 : Nat))).snd : Int)] [some (Row.box false [AV.slv (Sh.agg [Sh.str, (Sh.agg [Sh.int IntKind.i64, Sh.int IntKind.i64, Sh.str]).slice]) es, AV.str host, AV.int IntKind.i64 (ruleO (resN es host n) host (List.drop (IntKind.i64.wrap ((↑j : Int) + (1 : Int))).toNat rs) (IntKind.i64.wrap ((↑j : Int) + (1 : Int))).toNat l).snd])] else k (Ex.exit (0 : Nat)) [AV.ptr (1125899906842624 : Nat) (0 : Nat), AV.int IntKind.i64 (0 : Int), AV.slv (Sh.agg [Sh.int IntKind.i64, Sh.int IntKind.i64, Sh.str]) rs, AV.int IntKind.i64 (↑rs.length : Int), AV.int IntKind.i64 (↑rs.length : Int)] [some (Row.box false [AV.slv (Sh.agg [Sh.str, (Sh.agg [Sh.int IntKind.i64, Sh.int IntKind.i64, Sh.str]).slice]) es, AV.str host, AV.int IntKind.i64 (ruleO (resN es host n) host (List.drop (IntKind.i64.wrap ((↑j : Int) + (1 : Int))).toNat rs) (IntKind.i64.wrap ((↑j : Int) + (1 : Int))).toNat l).snd])] else none else none else none else k (Ex.exit (0 : Nat)) [AV.ptr (1125899906842624 : Nat) (0 : Nat), AV.int IntKind.i64 (0 : Int), AV.slv (Sh.agg [Sh.int IntKind.i64, Sh.int IntKind.i64, Sh.str]) rs, AV.int IntKind.i64 (↑rs.length : Int), AV.int IntKind.i64 (↑j : Int)] [some (Row.box false [AV.slv (Sh.agg [Sh.str, (Sh.agg [Sh.int IntKind.i64, Sh.int IntKind.i64, Sh.str]).slice]) es, AV.str host, AV.int IntKind.i64 l])]) (by kernel_rfl) ?_
    rw [← hk]
    have hg' := gRes_of hg
    obtain ⟨⟨l0, l1, l2⟩, g1, g2, g3⟩ := hg'
    have hb0 : ((fun x => PID + x) 0).beq PID = true := Nat.beq_refl PID
    by_cases hlt : j < rs.length
    · obtain ⟨e1, e2, e3, e4, e5⟩ := cnt_facts hlt hs
      rw [drop_getD hlt, ruleO_cons]
      have e6 : (rS (rs.getD j .unk)).length ≤ 1000 := of_decide_eq_true (List.all_eq_true.1 hS (rs.getD j .unk) (by rw [getD_eq hlt]; exact List.getElem_mem hlt))
      have e7 : lenB ([(46 : UInt8)].length + (rS (rs.getD j .unk)).length) = true := decide_eq_true (by show 1 + _ ≤ _; omega)
      have e8 : (small host.length && small ([(46 : UInt8)] ++ rS (rs.getD j .unk)).length) = true := and_t (decide_eq_true (by omega)) (decide_eq_true (by rw [List.length_append]; show 1 + _ ≤ _; omega))
      have e9 : apB host (rs.getD j .unk) = ((rK (rs.getD j .unk) == 1 || host == rS (rs.getD j .unk)) || (rK (rs.getD j .unk) == 3 && sufB host ([(46 : UInt8)] ++ rS (rs.getD j .unk)))) := rfl
      rw [e9]
      obtain ⟨x1, x2⟩ := res_spec (es := es) (host := host) n (rS (rs.getD j .unk)) l l0 l1
      simp only [e1, e2, e3, e4, e5, e7, e8, hg, hS, hb0, Nat.beq_refl, cond_true, Bool.true_and, Bool.and_true, Int.toNat_natCast]
      generalize sufB host ([(46 : UInt8)] ++ rS (rs.getD j .unk)) = b2
      generalize (host == rS (rs.getD j .unk)) = b1
      by_cases h4 : rK (rs.getD j .unk) = 4
      · rw [h4]
        generalize resN es host n (rS (rs.getD j .unk)) l = X at x1 x2 ⊢
        show (bif X.1 == 0 then _ else bif X.1 == 5 then _ else bif X.1 == 1 then _ else _) = _
        cases h0 : X.1 == 0
        · cases h5 : X.1 == 5
          · have n5 : X.1 ≠ 5 := by intro h; rw [h] at h5; cases h5
            have := x2 n5
            rw [gRes_to (n := n) (es := es) (host := host) (l := X.2) ⟨by omega, by omega, by omega⟩ g1 g2 g3]
            cases X.1 == 1 <;> rfl
          · rfl
        · cases X.1 == 5 <;> rfl
      · have n4 : (rK (rs.getD j .unk) == 4) = false := by simpa using h4
        rw [n4]
        cases b1 <;> cases b2 <;> cases (rK (rs.getD j .unk) == 1) <;> cases (rK (rs.getD j .unk) == 3) <;> rfl
    · obtain rfl : j = rs.length := by omega
      rw [decide_eq_false (by omega), List.drop_length]
      rfl
  · cases h
theorem okR35 (n : Nat) (g : GOK Tryd.prog (G35 n)) : XOK Tryd.prog 35 (ofX (F35 (n + 1))) := by
  have hL : ∀ b ∈ [b35], ∃ l, findIn [(8, l35 n)] (firstRegion b) = some l ∧ LoopOK Tryd.prog (G35 n) [(8, l35 n)] b l := fun b hb => by
    rcases List.mem_cons.1 hb with rfl | hb
    · exact ⟨l35 n, by kernel_rfl, loop35 g⟩
    · cases hb
  refine xsums (K := [(8, l35 n)]) (H := []) (bs := [b35]) g Tryd.func35 (by kernel_rfl) hL fun ρ avs rows k r h => ?_
  change (F35 (n + 1) avs rows).run _ = some r at h
  unfold F35 at h
  split at h
  · rename_i p d es host l
    obtain ⟨hc, hk⟩ := gd_some h
    clear h
    simp only [Bool.and_eq_true] at hc
    obtain ⟨hp, hg⟩ := hc
    obtain rfl := Nat.eq_of_beq_eq_true hp
    clear hp
    refine ⟨by simp, fun rows' hsp => ?_⟩
    obtain rfl : rows' = [.box false [.slv sP es, .str host, .int .i64 l]] := by
      match rows', hsp with
      | [r1], ⟨h1, _⟩ => rw [h1]; rfl
    refine Eq.trans (b := bif decide (IntKind.i64.wrap (l + (1 : Int)) > (10 : Int)) then k (AV.int IntKind.i64 (5 : Int)) [some (Row.box false [AV.slv (Sh.agg [Sh.str, (Sh.agg [Sh.int IntKind.i64, Sh.int IntKind.i64, Sh.str]).slice]) es, AV.str host, AV.int IntKind.i64 (IntKind.i64.wrap (l + (1 : Int)))])] [] else bif small es.length then bif decide (iZ (fP d es (0 : Nat)) < (0 : Int)) then k (AV.int IntKind.i64 (0 : Int)) [some (Row.box false [AV.slv (Sh.agg [Sh.str, (Sh.agg [Sh.int IntKind.i64, Sh.int IntKind.i64, Sh.str]).slice]) es, AV.str host, AV.int IntKind.i64 (IntKind.i64.wrap (l + (1 : Int)))])] [] else bif inb (iZ (fP d es (0 : Nat))) es.length then bif PID.beq PID && (cnt (↑(pR (es.getD (iZ (fP d es (0 : Nat))).toNat AV.unk)).length : Int) (0 : Int) (pR (es.getD (iZ (fP d es (0 : Nat))).toNat AV.unk)).length && (gRes n es host (IntKind.i64.wrap (l + (1 : Int))) && (pR (es.getD (iZ (fP d es (0 : Nat))).toNat AV.unk)).all fun r => decide ((rS r).length ≤ (1000 : Nat)))) then bif (ruleO (resN es host n) host (List.drop (0 : Nat) (pR (es.getD (iZ (fP d es (0 : Nat))).toNat AV.unk))) (0 : Nat) (IntKind.i64.wrap (l + (1 : Int)))).fst.isSome then k (AV.int IntKind.i64 ((ruleO (resN es host n) host (List.drop (0 : Nat) (pR (es.getD (iZ (fP d es (0 : Nat))).toNat AV.unk))) (0 : Nat) (IntKind.i64.wrap (l + (1 : Int)))).fst.getD ((0 : Int), (0 : Nat))).fst) [some (Row.box false [AV.slv (Sh.agg [Sh.str, (Sh.agg [Sh.int IntKind.i64, Sh.int IntKind.i64, Sh.str]).slice]) es, AV.str host, AV.int IntKind.i64 (ruleO (resN es host n) host (List.drop (0 : Nat) (pR (es.getD (iZ (fP d es (0 : Nat))).toNat AV.unk))) (0 : Nat) (IntKind.i64.wrap (l + (1 : Int)))).snd])] [] else k (AV.int IntKind.i64 (4 : Int)) [some (Row.box false [AV.slv (Sh.agg [Sh.str, (Sh.agg [Sh.int IntKind.i64, Sh.int IntKind.i64, Sh.str]).slice]) es, AV.str host, AV.int IntKind.i64 (ruleO (resN es host n) host (List.drop (0 : Nat) (pR (es.getD (iZ (fP d es (0 : Nat))).toNat AV.unk))) (0 : Nat) (IntKind.i64.wrap (l + (1 : Int)))).snd])] [] else none else none else none) (by kernel_rfl) ?_
    rw [← hk]
    obtain ⟨⟨l0, l1, l2⟩, g1, g2, g3⟩ := gRes_of hg
    have w : IntKind.i64.wrap (l + 1) = l + 1 := wrap_mid _ (by omega) (by omega)
    rw [w, g1]
    have hN : ∀ q, resN es host (n + 1) d q = bif decide (q + 1 > 10) then (5, q + 1) else match fP d es 0 with
      | none => (0, q + 1)
      | some i => (((ruleO (resN es host n) host (pR (es.getD i .unk)) 0 (q + 1)).1.getD (4, 0)).1, (ruleO (resN es host n) host (pR (es.getD i .unk)) 0 (q + 1)).2) := fun q => rfl
    rw [hN]
    by_cases h10 : l + 1 > 10
    · rw [decide_eq_true h10]; rfl
    · rw [decide_eq_false h10]
      cases hf : fP d es 0 with
      | none => rfl
      | some i =>
        have hi : i < es.length := (findN_some hf).2.1
        have q1 := List.all_eq_true.1 g2 (es.getD i .unk) (by rw [getD_eq hi]; exact List.getElem_mem hi)
        simp only [Bool.and_eq_true] at q1
        have i1 : decide (iZ (some i) < 0) = false := decide_eq_false (by show ¬ (i : Int) < 0; omega)
        have i2 : inb (iZ (some i)) es.length = true := inb_true (by show (0 : Int) ≤ (i : Int); omega) (by show (i : Int) < _; omega)
        have i3 : (iZ (some i)).toNat = i := Int.toNat_natCast i
        rw [i1, i2, i3, Nat.beq_refl, cnt_zero q1.1, gRes_to (n := n) (es := es) (host := host) (l := l + 1) ⟨by omega, by omega, by omega⟩ g1 g2 g3, q1.2, List.drop_zero]
        dsimp only
        generalize ruleO (resN es host n) host (pR (es.getD i .unk)) 0 (l + 1) = X
        obtain ⟨x, y⟩ := X
        cases x <;> rfl
  · cases h
theorem g35 {n : Nat} (h : XOK Tryd.prog 35 (ofX (F35 n)) ∧ XNat (ofX (F35 n))) : GOK Tryd.prog (G35 n) := GOK.alsoX (GOK.also (GOK.also (GOK.also g0 ok47) (inl g0 Tryd.func46 (by kernel_rfl))) ok45) h
theorem ok35 : ∀ n, XOK Tryd.prog 35 (ofX (F35 n)) ∧ XNat (ofX (F35 n))
  | 0 => by
    refine ⟨fun ρ w S B β og avs rows args k r hH hSB hdom hv h => ?_, xnat_ofX _⟩
    change (F35 0 avs rows).run _ = some r at h
    unfold F35 at h
    split at h
    · obtain ⟨hc, _⟩ := gd_some h
      simp only [Bool.and_eq_true] at hc
      have := (gRes_of hc.2).1
      exfalso
      omega
    · cases h
  | n + 1 => ⟨okR35 n (g35 (ok35 n)), xnat_ofX _⟩
end Go.Proofs.YtegeegibnckkkaaDoor
