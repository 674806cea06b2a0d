/-
  Equality of policies; the small policy.
-/
import Derived.Test.YtegeegibnckkkaaDoorHsI
/-
  A text cut at every byte of one kind: strings.genSplit, the document's Cut.
-/
namespace Go.Proofs.YtegeegibnckkkaaDoor
open Go.Ev

/-- The pieces before the last one, and the last one. -/
def splitB (c : UInt8) : List UInt8 → List (List UInt8) × List UInt8
  | [] => ([], [])
  | b :: l => bif b == c then ([] :: (splitB c l).1, (splitB c l).2) else match (splitB c l).1 with
    | [] => ([], b :: (splitB c l).2)
    | x :: xs => ((b :: x) :: xs, (splitB c l).2)
theorem splitB_cons (c b : UInt8) (l : List UInt8) : splitB c (b :: l) = bif b == c then ([] :: (splitB c l).1, (splitB c l).2) else match (splitB c l).1 with
    | [] => ([], b :: (splitB c l).2)
    | x :: xs => ((b :: x) :: xs, (splitB c l).2) := rfl
theorem split_no (c : UInt8) : ∀ (u : List UInt8), u.all (fun b => !(b == c)) = true → splitB c u = ([], u)
  | [], _ => rfl
  | b :: u, h => by
    simp only [List.all_cons, Bool.and_eq_true, Bool.not_eq_true'] at h
    unfold splitB
    rw [h.1, split_no c u h.2]
    rfl
theorem split_at (c : UInt8) (l : List UInt8) : ∀ (u : List UInt8), u.all (fun b => !(b == c)) = true → splitB c (u ++ c :: l) = (u :: (splitB c l).1, (splitB c l).2)
  | [], _ => by
    show (bif c == c then _ else _) = _
    rw [beq_self_eq_true]; rfl
  | b :: u, h => by
    simp only [List.all_cons, Bool.and_eq_true, Bool.not_eq_true'] at h
    rw [List.cons_append, splitB_cons, h.1, split_at c l u h.2]
    rfl
theorem index_spec (c : UInt8) : ∀ s : List UInt8, (Lib.indexByte s c = -1 ∧ s.count c = 0 ∧ s.all (fun b => !(b == c)) = true) ∨ ∃ m : Nat, Lib.indexByte s c = m ∧ m < s.length ∧ s.count c = (s.drop (m + 1)).count c + 1 ∧ s = s.take m ++ c :: s.drop (m + 1) ∧ (s.take m).all (fun b => !(b == c)) = true
  | [] => .inl ⟨rfl, rfl, rfl⟩
  | b :: l => by
    by_cases hb : b = c
    · subst hb
      refine .inr ⟨0, ?_, Nat.succ_pos _, ?_, rfl, rfl⟩
      · unfold Lib.indexByte; rw [if_pos (beq_self_eq_true _)]; rfl
      · rw [List.count_cons_self]; rfl
    · have hb' : (b == c) = false := by simpa using hb
      have hc : (b :: l).count c = l.count c := List.count_cons_of_ne hb
      rcases index_spec c l with ⟨h1, h2, h3⟩ | ⟨m, h1, h2, h3, h4, h5⟩
      · refine .inl ⟨?_, by rw [hc, h2], ?_⟩
        · unfold Lib.indexByte; rw [hb', h1]; rfl
        · simp only [List.all_cons, hb', h3]; rfl
      · refine .inr ⟨m + 1, ?_, Nat.succ_lt_succ h2, by rw [hc, h3]; rfl, ?_, ?_⟩
        · unfold Lib.indexByte
          rw [hb', h1]
          have : ((m : Int) == -1) = false := by
            exact beq_eq_false_iff_ne.2 (by omega)
          rw [this]
          show (m : Int) + 1 = ((m + 1 : Nat) : Int)
          omega
        · rw [List.take_succ_cons, List.drop_succ_cons, List.cons_append, ← h4]
        · rw [List.take_succ_cons]
          simp only [List.all_cons, hb', h5]; rfl
theorem idx_spec (c : UInt8) (s : List UInt8) : (idxB s c.toNat = -1 ∧ cntB s c.toNat = 0 ∧ splitB c s = ([], s)) ∨ ∃ m : Nat, idxB s c.toNat = m ∧ m < s.length ∧ cntB s c.toNat = cntB (s.drop (m + 1)) c.toNat + 1 ∧ splitB c s = (s.take m :: (splitB c (s.drop (m + 1))).1, (splitB c (s.drop (m + 1))).2) := by
  have e : (c.toNat : Int).toNat.toUInt8 = c := by rw [Int.toNat_natCast]; exact UInt8.ofNat_toNat
  unfold idxB cntB Lib.countByte
  rw [e]
  rcases index_spec c s with ⟨h1, h2, h3⟩ | ⟨m, h1, h2, h3, h4, h5⟩
  · exact .inl ⟨h1, h2, split_no c s h3⟩
  · refine .inr ⟨m, h1, h2, h3, ?_⟩
    have := split_at c (s.drop (m + 1)) (s.take m) h5
    rw [← h4] at this
    exact this
theorem cnt_len (c : UInt8) (s : List UInt8) : cntB s c.toNat ≤ s.length := List.count_le_length
theorem split_len (c : UInt8) : ∀ (n : Nat) (s : List UInt8), s.length ≤ n → (splitB c s).1.length = cntB s c.toNat
  | n, s, hn => by
    rcases idx_spec c s with ⟨_, h2, h3⟩ | ⟨m, _, h2, h3, h4⟩
    · rw [h3, h2]; rfl
    · match n with
      | 0 => omega
      | n + 1 =>
        rw [h4, h3, List.length_cons, split_len c n (s.drop (m + 1)) (by rw [List.length_drop]; omega)]
theorem split_suf (c : UInt8) : ∀ (n : Nat) (s : List UInt8), s.length ≤ n → (splitB c s).2 <:+ s
  | n, s, hn => by
    rcases idx_spec c s with ⟨_, h2, h3⟩ | ⟨m, _, h2, h3, h4⟩
    · rw [h3]; exact List.suffix_refl _
    · match n with
      | 0 => omega
      | n + 1 =>
        rw [h4]
        exact (split_suf c n (s.drop (m + 1)) (by rw [List.length_drop]; omega)).trans (List.drop_suffix _ _)
theorem by9 : Tryd.prog.bytesOf 9 ≤ 1000 := of_decide_eq_true (by kernel_rfl)
def strs (l : List (List UInt8)) : List AV := l.map .str
def partsB (c : UInt8) (s : List UInt8) : List AV := strs (splitB c s).1 ++ [.str (splitB c s).2]
noncomputable def b39 : Code := ((Tryd.f39.body.map loopsOf).getD []).headD .skip
def L39 : List AV → List (Option Row) → Tr LOut
  | [.str s, .str [c], .int .i64 0, .int .i64 n, .own 513, .int .i64 i], [some (.arr false .str e es none)] =>
    .gd (decide (0 ≤ i ∧ n = i + (cntB s c.toNat : Nat) ∧ (es.length : Int) = n + 1 ∧ s.length ≤ 1000000 ∧ i + s.length ≤ 1000000)) (.leaf (.exit 0, [.str (splitB c s).2, .str [c], .int .i64 0, .int .i64 n, .own 513, .int .i64 n], [some (.arr false .str e (es.take i.toNat ++ (strs (splitB c s).1 ++ es.drop n.toNat)) none)]))
  | _, _ => .no
def l39 : Ev.Loop := ⟨{ len := 66, slots := [0, 1, 2, 3, 9, 10], rows := [513] }, ofL L39⟩
def μ39 (vs : List AV) (_ : List (Option Row)) : Nat := match vs with
  | [_, _, _, .int _ n, _, .int _ i] => (n - i).toNat
  | _ => 0
theorem loop39 : LoopOK Tryd.prog G39 [(11, l39)] b39 l39 := by
  refine loopT g39.natOK rfl (KOK.nil (by kernel_rfl)) μ39 (fun ρ vs rs k r h => ?_)
  unfold L39 at h
  split at h
  · rename_i s c n i e es
    obtain ⟨hc, hk⟩ := gd_some h
    obtain ⟨c1, c2, c3, c4, c5⟩ := of_decide_eq_true hc
    obtain ⟨j, rfl⟩ : ∃ m : Nat, i = m := ⟨i.toNat, by omega⟩
    simp only [Int.toNat_natCast] at hk
    refine Eq.trans (b := bif decide ((↑j : Int) < n) then bif decide (idxB s (↑c.toNat : Int) < (0 : Int)) then k (Ex.exit (0 : Nat)) [AV.str s, AV.str [c], AV.int IntKind.i64 (0 : Int), AV.int IntKind.i64 n, AV.own (513 : Nat), AV.int IntKind.i64 (↑j : Int)] [some (Row.arr false Sh.str e es none)] else bif slb (0 : Int) (IntKind.i64.wrap (idxB s (↑c.toNat : Int) + (0 : Int))) s.length then bif inb (↑j : Int) es.length then bif decide (j < es.length) then bif slb (IntKind.i64.wrap (idxB s (↑c.toNat : Int) + (↑[c].length : Int))) (↑s.length : Int) s.length then bif decide ((n - IntKind.i64.wrap ((↑j : Int) + (1 : Int))).toNat < (n - (↑j : Int)).toNat) then bif decide ((0 : Int) ≤ IntKind.i64.wrap ((↑j : Int) + (1 : Int)) ∧ n = IntKind.i64.wrap ((↑j : Int) + (1 : Int)) + (↑(cntB (List.take ((↑s.length : Int).toNat - (IntKind.i64.wrap (idxB s (↑c.toNat : Int) + (↑[c].length : Int))).toNat) (List.drop (IntKind.i64.wrap (idxB s (↑c.toNat : Int) + (↑[c].length : Int))).toNat s)) (↑c.toNat : Int)) : Int) ∧ (↑(es.set j (mkAV Sh.str [AV.str (List.take ((IntKind.i64.wrap (idxB s (↑c.toNat : Int) + (0 : Int))).toNat - Int.toNat (0 : Int)) (List.drop (0 : Nat) s))])).length : Int) = n + (1 : Int) ∧ (List.take ((↑s.length : Int).toNat - (IntKind.i64.wrap (idxB s (↑c.toNat : Int) + (↑[c].length : Int))).toNat) (List.drop (IntKind.i64.wrap (idxB s (↑c.toNat : Int) + (↑[c].length : Int))).toNat s)).length ≤ (1000000 : Nat) ∧ IntKind.i64.wrap ((↑j : Int) + (1 : Int)) + (↑(List.take ((↑s.length : Int).toNat - (IntKind.i64.wrap (idxB s (↑c.toNat : Int) + (↑[c].length : Int))).toNat) (List.drop (IntKind.i64.wrap (idxB s (↑c.toNat : Int) + (↑[c].length : Int))).toNat s)).length : Int) ≤ (1000000 : Int)) then k (Ex.exit (0 : Nat)) [AV.str (splitB c (List.take ((↑s.length : Int).toNat - (IntKind.i64.wrap (idxB s (↑c.toNat : Int) + (↑[c].length : Int))).toNat) (List.drop (IntKind.i64.wrap (idxB s (↑c.toNat : Int) + (↑[c].length : Int))).toNat s))).snd, AV.str [c], AV.int IntKind.i64 (0 : Int), AV.int IntKind.i64 n, AV.own (513 : Nat), AV.int IntKind.i64 n] [some (Row.arr false Sh.str e (List.take (IntKind.i64.wrap ((↑j : Int) + (1 : Int))).toNat (es.set j (mkAV Sh.str [AV.str (List.take ((IntKind.i64.wrap (idxB s (↑c.toNat : Int) + (0 : Int))).toNat - Int.toNat (0 : Int)) (List.drop (0 : Nat) s))])) ++ (strs (splitB c (List.take ((↑s.length : Int).toNat - (IntKind.i64.wrap (idxB s (↑c.toNat : Int) + (↑[c].length : Int))).toNat) (List.drop (IntKind.i64.wrap (idxB s (↑c.toNat : Int) + (↑[c].length : Int))).toNat s))).fst ++ List.drop n.toNat (es.set j (mkAV Sh.str [AV.str (List.take ((IntKind.i64.wrap (idxB s (↑c.toNat : Int) + (0 : Int))).toNat - Int.toNat (0 : Int)) (List.drop (0 : Nat) s))])))) none)] else none else none else none else none else none else none else k (Ex.exit (0 : Nat)) [AV.str s, AV.str [c], AV.int IntKind.i64 (0 : Int), AV.int IntKind.i64 n, AV.own (513 : Nat), AV.int IntKind.i64 (↑j : Int)] [some (Row.arr false Sh.str e es none)]) (by kernel_rfl) ?_
    rw [← hk]
    by_cases hlt : (j : Int) < n
    · rcases idx_spec c s with ⟨h1, h2, h3⟩ | ⟨m, h1, h2, h3, h4⟩
      · omega
      · have w1 : IntKind.i64.wrap ((m : Int) + 0) = (m : Int) := by rw [wrap_mid _ (by omega) (by omega)]; omega
        have w2 : IntKind.i64.wrap ((m : Int) + (([c] : List UInt8).length : Int)) = ((m + 1 : Nat) : Int) := by rw [wrap_mid _ (by show -1000000000000 ≤ (m : Int) + 1; omega) (by show (m : Int) + 1 ≤ _; omega)]; show (m : Int) + 1 = _; omega
        have w3 : IntKind.i64.wrap ((j : Int) + 1) = ((j + 1 : Nat) : Int) := by rw [wrap_mid _ (by omega) (by omega)]; omega
        have t1 : List.take (m - Int.toNat 0) (List.drop 0 s) = s.take m := rfl
        have t2 : List.take (s.length - (m + 1)) (List.drop (m + 1) s) = s.drop (m + 1) := List.take_of_length_le (by rw [List.length_drop]; omega)
        have hj : j < es.length := by omega
        have tk : (es.set j (mkAV .str [.str (s.take m)])).take (j + 1) = es.take j ++ [.str (s.take m)] := by
          rw [List.take_succ_eq_append_getElem (by rw [List.length_set]; exact hj), List.getElem_set_self, List.take_set_of_le (Nat.le_refl _)]
          rfl
        have dr : (es.set j (mkAV .str [.str (s.take m)])).drop n.toNat = es.drop n.toNat := List.drop_set_of_lt (by omega)
        have hd : (s.drop (m + 1)).length = s.length - (m + 1) := List.length_drop
        rw [h4]
        simp only [h1, w1, w2, w3, Int.toNat_natCast, t1, t2, tk, dr, List.length_set]
        repeat (first | refine Eq.trans (cond_t (by first | with_reducible rfl | exact Bool.not_false | assumption | exact decide_eq_true (by omega) | exact inb_true (by omega) (by omega) | exact slb_true (by omega) (by omega) (by omega) | exact inb_true (by omega) (by omega))) ?_ | refine Eq.trans (cond_f (by first | with_reducible rfl | exact Bool.not_true | assumption | exact decide_eq_false (by omega))) ?_)
        show k _ _ _ = k _ _ _
        unfold strs
        rw [List.map_cons, List.append_assoc]
        rfl
    · have hn : n = (j : Int) := by omega
      subst hn
      rcases idx_spec c s with ⟨h1, h2, h3⟩ | ⟨m, h1, h2, h3, h4⟩
      · rw [decide_eq_false hlt, h3]
        show k _ _ _ = k _ _ [some (Row.arr false Sh.str e (es.take j ++ ([] ++ es.drop j)) none)]
        rw [List.nil_append, List.take_append_drop]
      · omega
  · cases h
def F39 : List AV → Tr AV
  | [.str s, .str [c], .int .i64 0, .int .i64 (-1)] => .gd (decide (s.length ≤ 100000)) (.leaf (.slv .str (partsB c s)))
  | _ => .no
theorem ok39 : SumOK Tryd.prog 39 (ofT F39) ∧ SNat (ofT F39) := by
  refine fn1 (K := [(11, l39)]) (b := b39) (l := l39) g39 Tryd.func39 (by kernel_rfl) (by kernel_rfl) loop39 fun ρ avs k r h => ?_
  unfold F39 at h
  split at h
  · rename_i s c
    obtain ⟨hc, hk⟩ := gd_some h
    have hc := of_decide_eq_true hc
    refine Eq.trans (b := bif ((if IntKind.i64.wrap ((↑s.length : Int) + (1 : Int)) < IntKind.i64.wrap ((↑(cntB s (↑c.toNat : Int)) : Int) + (1 : Int)) then IntKind.i64.wrap ((↑s.length : Int) + (1 : Int)) else IntKind.i64.wrap ((↑(cntB s (↑c.toNat : Int)) : Int) + (1 : Int))) == if IntKind.i64.wrap ((↑s.length : Int) + (1 : Int)) < IntKind.i64.wrap ((↑(cntB s (↑c.toNat : Int)) : Int) + (1 : Int)) then IntKind.i64.wrap ((↑s.length : Int) + (1 : Int)) else IntKind.i64.wrap ((↑(cntB s (↑c.toNat : Int)) : Int) + (1 : Int))) && (decide ((0 : Int) ≤ if IntKind.i64.wrap ((↑s.length : Int) + (1 : Int)) < IntKind.i64.wrap ((↑(cntB s (↑c.toNat : Int)) : Int) + (1 : Int)) then IntKind.i64.wrap ((↑s.length : Int) + (1 : Int)) else IntKind.i64.wrap ((↑(cntB s (↑c.toNat : Int)) : Int) + (1 : Int))) && roomB (if IntKind.i64.wrap ((↑s.length : Int) + (1 : Int)) < IntKind.i64.wrap ((↑(cntB s (↑c.toNat : Int)) : Int) + (1 : Int)) then IntKind.i64.wrap ((↑s.length : Int) + (1 : Int)) else IntKind.i64.wrap ((↑(cntB s (↑c.toNat : Int)) : Int) + (1 : Int))).toNat (Tryd.prog.bytesOf (9 : Nat))) then bif decide ((0 : Int) ≤ (0 : Int) ∧ IntKind.i64.wrap ((if IntKind.i64.wrap ((↑s.length : Int) + (1 : Int)) < IntKind.i64.wrap ((↑(cntB s (↑c.toNat : Int)) : Int) + (1 : Int)) then IntKind.i64.wrap ((↑s.length : Int) + (1 : Int)) else IntKind.i64.wrap ((↑(cntB s (↑c.toNat : Int)) : Int) + (1 : Int))) - (1 : Int)) = (0 : Int) + (↑(cntB s (↑c.toNat : Int)) : Int) ∧ (↑(List.replicate (if IntKind.i64.wrap ((↑s.length : Int) + (1 : Int)) < IntKind.i64.wrap ((↑(cntB s (↑c.toNat : Int)) : Int) + (1 : Int)) then IntKind.i64.wrap ((↑s.length : Int) + (1 : Int)) else IntKind.i64.wrap ((↑(cntB s (↑c.toNat : Int)) : Int) + (1 : Int))).toNat (zeroE Tryd.prog (9 : Nat))).length : Int) = IntKind.i64.wrap ((if IntKind.i64.wrap ((↑s.length : Int) + (1 : Int)) < IntKind.i64.wrap ((↑(cntB s (↑c.toNat : Int)) : Int) + (1 : Int)) then IntKind.i64.wrap ((↑s.length : Int) + (1 : Int)) else IntKind.i64.wrap ((↑(cntB s (↑c.toNat : Int)) : Int) + (1 : Int))) - (1 : Int)) + (1 : Int) ∧ s.length ≤ (1000000 : Nat) ∧ (0 : Int) + (↑s.length : Int) ≤ (1000000 : Int)) then bif inb (IntKind.i64.wrap ((if IntKind.i64.wrap ((↑s.length : Int) + (1 : Int)) < IntKind.i64.wrap ((↑(cntB s (↑c.toNat : Int)) : Int) + (1 : Int)) then IntKind.i64.wrap ((↑s.length : Int) + (1 : Int)) else IntKind.i64.wrap ((↑(cntB s (↑c.toNat : Int)) : Int) + (1 : Int))) - (1 : Int))) ([] ++ (strs (splitB c s).fst ++ List.drop (IntKind.i64.wrap ((if IntKind.i64.wrap ((↑s.length : Int) + (1 : Int)) < IntKind.i64.wrap ((↑(cntB s (↑c.toNat : Int)) : Int) + (1 : Int)) then IntKind.i64.wrap ((↑s.length : Int) + (1 : Int)) else IntKind.i64.wrap ((↑(cntB s (↑c.toNat : Int)) : Int) + (1 : Int))) - (1 : Int))).toNat (List.replicate (if IntKind.i64.wrap ((↑s.length : Int) + (1 : Int)) < IntKind.i64.wrap ((↑(cntB s (↑c.toNat : Int)) : Int) + (1 : Int)) then IntKind.i64.wrap ((↑s.length : Int) + (1 : Int)) else IntKind.i64.wrap ((↑(cntB s (↑c.toNat : Int)) : Int) + (1 : Int))).toNat (zeroE Tryd.prog (9 : Nat))))).length then bif decide ((IntKind.i64.wrap ((if IntKind.i64.wrap ((↑s.length : Int) + (1 : Int)) < IntKind.i64.wrap ((↑(cntB s (↑c.toNat : Int)) : Int) + (1 : Int)) then IntKind.i64.wrap ((↑s.length : Int) + (1 : Int)) else IntKind.i64.wrap ((↑(cntB s (↑c.toNat : Int)) : Int) + (1 : Int))) - (1 : Int))).toNat < ([] ++ (strs (splitB c s).fst ++ List.drop (IntKind.i64.wrap ((if IntKind.i64.wrap ((↑s.length : Int) + (1 : Int)) < IntKind.i64.wrap ((↑(cntB s (↑c.toNat : Int)) : Int) + (1 : Int)) then IntKind.i64.wrap ((↑s.length : Int) + (1 : Int)) else IntKind.i64.wrap ((↑(cntB s (↑c.toNat : Int)) : Int) + (1 : Int))) - (1 : Int))).toNat (List.replicate (if IntKind.i64.wrap ((↑s.length : Int) + (1 : Int)) < IntKind.i64.wrap ((↑(cntB s (↑c.toNat : Int)) : Int) + (1 : Int)) then IntKind.i64.wrap ((↑s.length : Int) + (1 : Int)) else IntKind.i64.wrap ((↑(cntB s (↑c.toNat : Int)) : Int) + (1 : Int))).toNat (zeroE Tryd.prog (9 : Nat))))).length) then bif slb (0 : Int) (IntKind.i64.wrap (IntKind.i64.wrap ((if IntKind.i64.wrap ((↑s.length : Int) + (1 : Int)) < IntKind.i64.wrap ((↑(cntB s (↑c.toNat : Int)) : Int) + (1 : Int)) then IntKind.i64.wrap ((↑s.length : Int) + (1 : Int)) else IntKind.i64.wrap ((↑(cntB s (↑c.toNat : Int)) : Int) + (1 : Int))) - (1 : Int)) + (1 : Int))) (([] ++ (strs (splitB c s).fst ++ List.drop (IntKind.i64.wrap ((if IntKind.i64.wrap ((↑s.length : Int) + (1 : Int)) < IntKind.i64.wrap ((↑(cntB s (↑c.toNat : Int)) : Int) + (1 : Int)) then IntKind.i64.wrap ((↑s.length : Int) + (1 : Int)) else IntKind.i64.wrap ((↑(cntB s (↑c.toNat : Int)) : Int) + (1 : Int))) - (1 : Int))).toNat (List.replicate (if IntKind.i64.wrap ((↑s.length : Int) + (1 : Int)) < IntKind.i64.wrap ((↑(cntB s (↑c.toNat : Int)) : Int) + (1 : Int)) then IntKind.i64.wrap ((↑s.length : Int) + (1 : Int)) else IntKind.i64.wrap ((↑(cntB s (↑c.toNat : Int)) : Int) + (1 : Int))).toNat (zeroE Tryd.prog (9 : Nat))))).set (IntKind.i64.wrap ((if IntKind.i64.wrap ((↑s.length : Int) + (1 : Int)) < IntKind.i64.wrap ((↑(cntB s (↑c.toNat : Int)) : Int) + (1 : Int)) then IntKind.i64.wrap ((↑s.length : Int) + (1 : Int)) else IntKind.i64.wrap ((↑(cntB s (↑c.toNat : Int)) : Int) + (1 : Int))) - (1 : Int))).toNat (mkAV Sh.str [AV.str (splitB c s).snd])).length then bif decide (Int.toNat (0 : Int) + ((IntKind.i64.wrap (IntKind.i64.wrap ((if IntKind.i64.wrap ((↑s.length : Int) + (1 : Int)) < IntKind.i64.wrap ((↑(cntB s (↑c.toNat : Int)) : Int) + (1 : Int)) then IntKind.i64.wrap ((↑s.length : Int) + (1 : Int)) else IntKind.i64.wrap ((↑(cntB s (↑c.toNat : Int)) : Int) + (1 : Int))) - (1 : Int)) + (1 : Int))).toNat - Int.toNat (0 : Int)) ≤ (([] ++ (strs (splitB c s).fst ++ List.drop (IntKind.i64.wrap ((if IntKind.i64.wrap ((↑s.length : Int) + (1 : Int)) < IntKind.i64.wrap ((↑(cntB s (↑c.toNat : Int)) : Int) + (1 : Int)) then IntKind.i64.wrap ((↑s.length : Int) + (1 : Int)) else IntKind.i64.wrap ((↑(cntB s (↑c.toNat : Int)) : Int) + (1 : Int))) - (1 : Int))).toNat (List.replicate (if IntKind.i64.wrap ((↑s.length : Int) + (1 : Int)) < IntKind.i64.wrap ((↑(cntB s (↑c.toNat : Int)) : Int) + (1 : Int)) then IntKind.i64.wrap ((↑s.length : Int) + (1 : Int)) else IntKind.i64.wrap ((↑(cntB s (↑c.toNat : Int)) : Int) + (1 : Int))).toNat (zeroE Tryd.prog (9 : Nat))))).set (IntKind.i64.wrap ((if IntKind.i64.wrap ((↑s.length : Int) + (1 : Int)) < IntKind.i64.wrap ((↑(cntB s (↑c.toNat : Int)) : Int) + (1 : Int)) then IntKind.i64.wrap ((↑s.length : Int) + (1 : Int)) else IntKind.i64.wrap ((↑(cntB s (↑c.toNat : Int)) : Int) + (1 : Int))) - (1 : Int))).toNat (mkAV Sh.str [AV.str (splitB c s).snd])).length) then k (AV.slv Sh.str (List.take ((IntKind.i64.wrap (IntKind.i64.wrap ((if IntKind.i64.wrap ((↑s.length : Int) + (1 : Int)) < IntKind.i64.wrap ((↑(cntB s (↑c.toNat : Int)) : Int) + (1 : Int)) then IntKind.i64.wrap ((↑s.length : Int) + (1 : Int)) else IntKind.i64.wrap ((↑(cntB s (↑c.toNat : Int)) : Int) + (1 : Int))) - (1 : Int)) + (1 : Int))).toNat - Int.toNat (0 : Int)) (List.drop (0 : Nat) (([] ++ (strs (splitB c s).fst ++ List.drop (IntKind.i64.wrap ((if IntKind.i64.wrap ((↑s.length : Int) + (1 : Int)) < IntKind.i64.wrap ((↑(cntB s (↑c.toNat : Int)) : Int) + (1 : Int)) then IntKind.i64.wrap ((↑s.length : Int) + (1 : Int)) else IntKind.i64.wrap ((↑(cntB s (↑c.toNat : Int)) : Int) + (1 : Int))) - (1 : Int))).toNat (List.replicate (if IntKind.i64.wrap ((↑s.length : Int) + (1 : Int)) < IntKind.i64.wrap ((↑(cntB s (↑c.toNat : Int)) : Int) + (1 : Int)) then IntKind.i64.wrap ((↑s.length : Int) + (1 : Int)) else IntKind.i64.wrap ((↑(cntB s (↑c.toNat : Int)) : Int) + (1 : Int))).toNat (zeroE Tryd.prog (9 : Nat))))).set (IntKind.i64.wrap ((if IntKind.i64.wrap ((↑s.length : Int) + (1 : Int)) < IntKind.i64.wrap ((↑(cntB s (↑c.toNat : Int)) : Int) + (1 : Int)) then IntKind.i64.wrap ((↑s.length : Int) + (1 : Int)) else IntKind.i64.wrap ((↑(cntB s (↑c.toNat : Int)) : Int) + (1 : Int))) - (1 : Int))).toNat (mkAV Sh.str [AV.str (splitB c s).snd]))))) else none else none else none else none else none else none) (by kernel_rfl) ?_
    rw [← hk]
    have hq := cnt_len c s
    have hlen := split_len c s.length s (Nat.le_refl _)
    generalize hqq : cntB s c.toNat = q at *
    have w1 : IntKind.i64.wrap ((s.length : Int) + 1) = (s.length : Int) + 1 := wrap_mid _ (by omega) (by omega)
    have w2 : IntKind.i64.wrap ((q : Int) + 1) = (q : Int) + 1 := wrap_mid _ (by omega) (by omega)
    have w3 : IntKind.i64.wrap ((q : Int) + 1 - 1) = (q : Int) := by rw [wrap_mid _ (by omega) (by omega)]; omega
    have t1 : ((q : Int) + 1).toNat = q + 1 := by omega
    have hsl : (strs (splitB c s).1).length = q := by unfold strs; rw [List.length_map]; exact hlen
    have hdr : ∀ z : AV, List.drop q (List.replicate (q + 1) z) = [z] := fun z => by rw [List.drop_replicate, show q + 1 - q = 1 from by omega]; rfl
    have hset : ∀ z : AV, ([] ++ (strs (splitB c s).1 ++ [z])).set q (mkAV .str [.str (splitB c s).2]) = partsB c s := fun z => by
      rw [List.nil_append, List.set_append_right _ _ (by omega), hsl, Nat.sub_self]; rfl
    have hpl : (partsB c s).length = q + 1 := by unfold partsB; rw [List.length_append, hsl]; rfl
    have hp1 : ∀ z : AV, ([] ++ (strs (splitB c s).1 ++ [z])).length = q + 1 := fun z => by rw [List.nil_append, List.length_append, hsl]; rfl
    simp only [w1, w2, if_neg (show ¬ ((s.length : Int) + 1 < (q : Int) + 1) by omega), w3, t1, Int.toNat_natCast, hdr, hset, hpl, hp1, List.length_replicate]
    have r9 := roomB_small (n := q + 1) (by omega) by9
    repeat (first | refine Eq.trans (cond_t (by first | with_reducible rfl | exact Bool.not_false | assumption | exact decide_eq_true (by omega) | exact inb_true (by omega) (by omega) | exact slb_true (by omega) (by omega) (by omega) | exact inb_true (by omega) (by omega) | exact and_t (beq_self_eq_true _) (and_t (decide_eq_true (by omega)) r9))) ?_ | refine Eq.trans (cond_f (by first | with_reducible rfl | exact Bool.not_true | assumption | exact decide_eq_false (by omega))) ?_)
    rw [show List.take (q + 1 - Int.toNat 0) (List.drop 0 (partsB c s)) = partsB c s from List.take_of_length_le (by rw [List.drop_zero, hpl]; exact Nat.le_refl _)]
    rfl
  · cases h
noncomputable def b29 : Code := ((Tryd.f29.body.map loopsOf).getD []).headD .skip
def L29 : List AV → List (Option Row) → Tr LOut
  | [.str s, .str [c], .own 900, .int .i64 f, .int .i64 i], [some (.arr false .str e es none)] =>
    .gd (decide (0 ≤ f ∧ f ≤ i ∧ i ≤ s.length ∧ s.length ≤ 100000 ∧ es.length ≤ i) && (Nat.beq e 9 && ((s.drop f.toNat).take (i.toNat - f.toNat)).all (fun b => !(b == c)))) (.leaf (.exit 0, [.str s, .str [c], .own 900, .int .i64 ((s.length : Int) - ((splitB c (s.drop f.toNat)).2.length : Nat)), .int .i64 s.length], [some (.arr false .str 9 (es ++ strs (splitB c (s.drop f.toNat)).1) none)]))
  | _, _ => .no
def l29 : Ev.Loop := ⟨{ len := 48, slots := [0, 1, 5, 6, 7], rows := [900], homes := [(5, 900, 9)] }, ofL L29⟩
def μ29 (vs : List AV) (_ : List (Option Row)) : Nat := match vs with
  | [.str s, _, _, _, .int _ i] => ((s.length : Int) - i).toNat
  | _ => 0
theorem loop29 : LoopOK Tryd.prog G0 [(4, l29)] b29 l29 := by
  refine loopT g0.natOK rfl (KOK.nil (by kernel_rfl)) μ29 (fun ρ vs rs k r h => ?_)
  unfold L29 at h
  split at h
  · rename_i s c f i e es
    obtain ⟨hc, hk⟩ := gd_some h
    simp only [Bool.and_eq_true] at hc
    obtain ⟨hd, he, hno⟩ := hc
    obtain ⟨c1, c2, c3, c4, c5⟩ := of_decide_eq_true hd
    obtain rfl := Nat.eq_of_beq_eq_true he
    obtain ⟨j, rfl⟩ : ∃ m : Nat, i = m := ⟨i.toNat, by omega⟩
    obtain ⟨f, rfl⟩ : ∃ m : Nat, f = m := ⟨f.toNat, by omega⟩
    simp only [Int.toNat_natCast] at hk hno
    refine Eq.trans (b := bif decide (IntKind.i64.wrap ((↑j : Int) + (↑[c].length : Int)) ≤ (↑s.length : Int)) then bif decide ((↑j : Int) ≥ (↑f : Int)) then bif slb (↑j : Int) (IntKind.i64.wrap ((↑j : Int) + (↑[c].length : Int))) s.length then bif List.take ((IntKind.i64.wrap ((↑j : Int) + (↑[c].length : Int))).toNat - j) (List.drop j s) == [c] then bif slb (↑f : Int) (↑j : Int) s.length then bif roomB (es.length + [AV.str (List.take (j - f) (List.drop f s))].length) (Tryd.prog.bytesOf (9 : Nat)) then bif decide (((↑s.length : Int) - IntKind.i64.wrap ((↑j : Int) + (1 : Int))).toNat < ((↑s.length : Int) - (↑j : Int)).toNat) then bif decide ((0 : Int) ≤ IntKind.i64.wrap ((↑j : Int) + (↑[c].length : Int)) ∧ IntKind.i64.wrap ((↑j : Int) + (↑[c].length : Int)) ≤ IntKind.i64.wrap ((↑j : Int) + (1 : Int)) ∧ IntKind.i64.wrap ((↑j : Int) + (1 : Int)) ≤ (↑s.length : Int) ∧ s.length ≤ (100000 : Nat) ∧ (↑(es ++ [AV.str (List.take (j - f) (List.drop f s))]).length : Int) ≤ IntKind.i64.wrap ((↑j : Int) + (1 : Int))) && (Nat.beq (9 : Nat) (9 : Nat) && (List.take ((IntKind.i64.wrap ((↑j : Int) + (1 : Int))).toNat - (IntKind.i64.wrap ((↑j : Int) + (↑[c].length : Int))).toNat) (List.drop (IntKind.i64.wrap ((↑j : Int) + (↑[c].length : Int))).toNat s)).all fun b => !b == c) then k (Ex.exit (0 : Nat)) [AV.str s, AV.str [c], AV.own (900 : Nat), AV.int IntKind.i64 ((↑s.length : Int) - (↑(splitB c (List.drop (IntKind.i64.wrap ((↑j : Int) + (↑[c].length : Int))).toNat s)).snd.length : Int)), AV.int IntKind.i64 (↑s.length : Int)] [some (Row.arr false Sh.str (9 : Nat) (es ++ [AV.str (List.take (j - f) (List.drop f s))] ++ strs (splitB c (List.drop (IntKind.i64.wrap ((↑j : Int) + (↑[c].length : Int))).toNat s)).fst) none)] else none else none else none else none else bif decide (((↑s.length : Int) - IntKind.i64.wrap ((↑j : Int) + (1 : Int))).toNat < ((↑s.length : Int) - (↑j : Int)).toNat) then bif decide ((0 : Int) ≤ (↑f : Int) ∧ (↑f : Int) ≤ IntKind.i64.wrap ((↑j : Int) + (1 : Int)) ∧ IntKind.i64.wrap ((↑j : Int) + (1 : Int)) ≤ (↑s.length : Int) ∧ s.length ≤ (100000 : Nat) ∧ (↑es.length : Int) ≤ IntKind.i64.wrap ((↑j : Int) + (1 : Int))) && (Nat.beq (9 : Nat) (9 : Nat) && (List.take ((IntKind.i64.wrap ((↑j : Int) + (1 : Int))).toNat - f) (List.drop f s)).all fun b => !b == c) then k (Ex.exit (0 : Nat)) [AV.str s, AV.str [c], AV.own (900 : Nat), AV.int IntKind.i64 ((↑s.length : Int) - (↑(splitB c (List.drop f s)).snd.length : Int)), AV.int IntKind.i64 (↑s.length : Int)] [some (Row.arr false Sh.str (9 : Nat) (es ++ strs (splitB c (List.drop f s)).fst) none)] else none else none else none else bif decide (((↑s.length : Int) - IntKind.i64.wrap ((↑j : Int) + (1 : Int))).toNat < ((↑s.length : Int) - (↑j : Int)).toNat) then bif decide ((0 : Int) ≤ (↑f : Int) ∧ (↑f : Int) ≤ IntKind.i64.wrap ((↑j : Int) + (1 : Int)) ∧ IntKind.i64.wrap ((↑j : Int) + (1 : Int)) ≤ (↑s.length : Int) ∧ s.length ≤ (100000 : Nat) ∧ (↑es.length : Int) ≤ IntKind.i64.wrap ((↑j : Int) + (1 : Int))) && (Nat.beq (9 : Nat) (9 : Nat) && (List.take ((IntKind.i64.wrap ((↑j : Int) + (1 : Int))).toNat - f) (List.drop f s)).all fun b => !b == c) then k (Ex.exit (0 : Nat)) [AV.str s, AV.str [c], AV.own (900 : Nat), AV.int IntKind.i64 ((↑s.length : Int) - (↑(splitB c (List.drop f s)).snd.length : Int)), AV.int IntKind.i64 (↑s.length : Int)] [some (Row.arr false Sh.str (9 : Nat) (es ++ strs (splitB c (List.drop f s)).fst) none)] else none else none else k (Ex.exit (0 : Nat)) [AV.str s, AV.str [c], AV.own (900 : Nat), AV.int IntKind.i64 (↑f : Int), AV.int IntKind.i64 (↑j : Int)] [some (Row.arr false Sh.str (9 : Nat) es none)]) (by kernel_rfl) ?_
    rw [← hk]
    have w1 : IntKind.i64.wrap ((j : Int) + (([c] : List UInt8).length : Int)) = ((j + 1 : Nat) : Int) := by rw [wrap_mid _ (by show -1000000000000 ≤ (j : Int) + 1; omega) (by show (j : Int) + 1 ≤ _; omega)]; show (j : Int) + 1 = _; omega
    have w3 : IntKind.i64.wrap ((j : Int) + 1) = ((j + 1 : Nat) : Int) := by rw [wrap_mid _ (by omega) (by omega)]; omega
    have r9 := roomB_small (n := es.length + 1) (by omega) by9
    simp only [w1, w3, Int.toNat_natCast]
    by_cases hlt : j < s.length
    · have hdj : s.drop j = s[j] :: s.drop (j + 1) := List.drop_eq_getElem_cons hlt
      have hfd : s.drop f = (s.drop f).take (j - f) ++ s[j] :: s.drop (j + 1) := by
        have := List.take_append_drop (j - f) (s.drop f)
        rw [List.drop_drop, show f + (j - f) = j from by omega, hdj] at this
        exact this.symm
      have ht1 : List.take (j + 1 - j) (List.drop j s) = [s[j]] := by rw [hdj, show j + 1 - j = 1 from by omega]; rfl
      have hbq : ([s[j]] == [c]) = (s[j] == c) := by simp
      have ht2 : (s.drop f).take (j + 1 - f) = (s.drop f).take (j - f) ++ [s[j]] := by
        have hl : ((s.drop f).take (j - f)).length = j - f := by rw [List.length_take, List.length_drop]; omega
        conv => lhs; rw [hfd]
        rw [List.take_append, hl, show j + 1 - f - (j - f) = 1 from by omega, List.take_of_length_le (by omega)]
        rfl
      have ht0 : List.take (j + 1 - (j + 1)) (List.drop (j + 1) s) = [] := by rw [Nat.sub_self]; rfl
      rw [ht1, hbq, ht2]
      cases hb : s[j] == c
      · have hno' : ((s.drop f).take (j - f) ++ [s[j]]).all (fun b => !(b == c)) = true := by
          rw [List.all_append, hno]; simp [hb]
        rw [hno']
        repeat (first | refine Eq.trans (cond_t (by first | with_reducible rfl | exact Bool.not_false | assumption | exact decide_eq_true (by omega) | exact inb_true (by omega) (by omega) | exact slb_true (by omega) (by omega) (by omega) | exact inb_true (by omega) (by omega) | exact and_t (decide_eq_true (by omega)) rfl)) ?_ | refine Eq.trans (cond_f (by first | with_reducible rfl | exact Bool.not_true | assumption | exact decide_eq_false (by omega))) ?_)
        rfl
      · have hc' := beq_iff_eq.1 hb
        rw [hc'] at hfd
        have hsp : splitB c (s.drop f) = ((s.drop f).take (j - f) :: (splitB c (s.drop (j + 1))).1, (splitB c (s.drop (j + 1))).2) := by
          have := split_at c (s.drop (j + 1)) _ hno
          rw [← hfd] at this
          exact this
        rw [ht0, hsp]
        repeat (first | refine Eq.trans (cond_t (by first | with_reducible rfl | exact Bool.not_false | assumption | exact decide_eq_true (by omega) | exact inb_true (by omega) (by omega) | exact slb_true (by omega) (by omega) (by omega) | exact inb_true (by omega) (by omega) | exact r9 | exact and_t (decide_eq_true (by simp only [List.length_append, List.length_cons, List.length_nil]; omega)) rfl)) ?_ | refine Eq.trans (cond_f (by first | with_reducible rfl | exact Bool.not_true | assumption | exact decide_eq_false (by omega))) ?_)
        show k _ _ _ = k _ _ _
        unfold strs
        rw [List.map_cons, List.append_assoc]
        try rfl
    · obtain rfl : j = s.length := by omega
      have hall : (s.drop f).all (fun b => !(b == c)) = true := by rw [List.take_of_length_le (by rw [List.length_drop]; exact Nat.le_refl _)] at hno; exact hno
      rw [split_no c _ hall, decide_eq_false (by omega)]
      show k _ _ _ = k _ [_, _, _, .int .i64 ((s.length : Int) - ((s.drop f).length : Nat)), _] [some (Row.arr false Sh.str 9 (es ++ []) none)]
      rw [List.append_nil, show (s.length : Int) - ((s.drop f).length : Nat) = (f : Int) from by rw [List.length_drop]; omega]
  · cases h
def F29 : List AV → Tr AV
  | [.str s, .str [c]] => .gd (decide (s.length ≤ 100000)) (.leaf (.slv .str (partsB c s)))
  | _ => .no
theorem ok29 : SumOK Tryd.prog 29 (ofT F29) ∧ SNat (ofT F29) := by
  refine fn1 (K := [(4, l29)]) (b := b29) (l := l29) g0 Tryd.func29 (by kernel_rfl) (by kernel_rfl) loop29 fun ρ avs k r h => ?_
  unfold F29 at h
  split at h
  · rename_i s c
    obtain ⟨hc, hk⟩ := gd_some h
    have hc := of_decide_eq_true hc
    refine Eq.trans (b := bif decide ((0 : Int) ≤ (0 : Int) ∧ (0 : Int) ≤ (0 : Int) ∧ (0 : Int) ≤ (↑s.length : Int) ∧ s.length ≤ (100000 : Nat) ∧ (↑([] : List AV).length : Int) ≤ (0 : Int)) && (Nat.beq ((5 : Nat), (900 : Nat), (9 : TypeId)).snd.snd (9 : Nat) && (List.take (Int.toNat (0 : Int) - Int.toNat (0 : Int)) (List.drop (0 : Nat) s)).all fun b => !b == c) then bif slb ((↑s.length : Int) - (↑(splitB c (List.drop (0 : Nat) s)).snd.length : Int)) (↑s.length : Int) s.length then bif roomB (([] ++ strs (splitB c (List.drop (0 : Nat) s)).fst).length + [AV.str (List.take ((↑s.length : Int).toNat - ((↑s.length : Int) - (↑(splitB c (List.drop (0 : Nat) s)).snd.length : Int)).toNat) (List.drop ((↑s.length : Int) - (↑(splitB c (List.drop (0 : Nat) s)).snd.length : Int)).toNat s))].length) (Tryd.prog.bytesOf (9 : Nat)) then k (AV.slv Sh.str ([] ++ strs (splitB c (List.drop (0 : Nat) s)).fst ++ [AV.str (List.take ((↑s.length : Int).toNat - ((↑s.length : Int) - (↑(splitB c (List.drop (0 : Nat) s)).snd.length : Int)).toNat) (List.drop ((↑s.length : Int) - (↑(splitB c (List.drop (0 : Nat) s)).snd.length : Int)).toNat s))])) else none else none else none) (by kernel_rfl) ?_
    rw [← hk]
    have hsuf := split_suf c s.length s (Nat.le_refl _)
    have hle := hsuf.length_le
    have heq := List.suffix_iff_eq_drop.1 hsuf
    have hlen := split_len c s.length s (Nat.le_refl _)
    have hcl := cnt_len c s
    have hsl : (strs (splitB c s).1).length ≤ s.length := by unfold strs; rw [List.length_map]; omega
    have t1 : ((s.length : Int) - ((splitB c s).2.length : Int)).toNat = s.length - (splitB c s).2.length := by omega
    have r9 : roomB (([] ++ strs (splitB c s).1).length + 1) (Tryd.prog.bytesOf 9) = true := roomB_small (by rw [List.nil_append]; omega) by9
    simp only [List.drop_zero, Int.toNat_natCast, t1, ← heq]
    rw [show List.take (s.length - (s.length - (splitB c s).2.length)) (splitB c s).2 = (splitB c s).2 from List.take_of_length_le (by omega)]
    repeat (first | refine Eq.trans (cond_t (by first | with_reducible rfl | exact Bool.not_false | assumption | exact decide_eq_true (by omega) | exact inb_true (by omega) (by omega) | exact slb_true (by omega) (by omega) (by omega) | exact r9 | exact and_t (decide_eq_true (by simp only [List.length_nil]; omega)) rfl)) ?_ | refine Eq.trans (cond_f (by first | with_reducible rfl | exact Bool.not_true | assumption | exact decide_eq_false (by omega))) ?_)
    rfl
  · cases h
end Go.Proofs.YtegeegibnckkkaaDoor

/-
  The texts of rules: the program's word, text; strings.CutPrefix.
-/
namespace Go.Proofs.YtegeegibnckkkaaDoor
open Go.Ev

theorem inR4 {k : Int} (h : inR k 1 4 = true) : k = 1 ∨ k = 2 ∨ k = 3 ∨ k = 4 := by
  have := inR_spec h
  omega
/-- "all", "is:", "under:", "include:". -/
def wordS (k : Int) : List UInt8 := bif k == 1 then [97, 108, 108] else bif k == 2 then [105, 115, 58] else bif k == 3 then [117, 110, 100, 101, 114, 58] else [105, 110, 99, 108, 117, 100, 101, 58]
/-- "+", "-", "~", "?". -/
def signS (r : Int) : List UInt8 := bif r == 1 then [43] else bif r == 2 then [45] else bif r == 3 then [126] else [63]
def F44 : List AV → Tr AV
  | [.int .i64 k] => .gd (inR k 1 4) (.leaf (.str (wordS k)))
  | _ => .no
theorem ok44 : SumOK Tryd.prog 44 (ofT F44) ∧ SNat (ofT F44) := by
  refine fn0 g0 Tryd.func44 (by kernel_rfl) fun ρ avs k r h => ?_
  unfold F44 at h
  split at h
  · rename_i n
    obtain ⟨hc, hk⟩ := gd_some h
    rw [← hk]
    rcases inR4 hc with rfl | rfl | rfl | rfl
    · refine Eq.trans (b := k (.str [97, 108, 108])) (by kernel_rfl) ?_; rfl
    · refine Eq.trans (b := k (.str [105, 115, 58])) (by kernel_rfl) ?_; rfl
    · refine Eq.trans (b := k (.str [117, 110, 100, 101, 114, 58])) (by kernel_rfl) ?_; rfl
    · refine Eq.trans (b := k (.str [105, 110, 99, 108, 117, 100, 101, 58])) (by kernel_rfl) ?_; rfl
  · cases h
def preB (s p : List UInt8) : Bool := decide (p.length ≤ s.length) && (s.take p.length == p)
def F62 : List AV → Tr AV
  | [.str s, .str p] => .gd (small s.length && small p.length) (.leaf (.bool (preB s p)))
  | _ => .no
theorem ok62 : SumOK Tryd.prog 62 (ofT F62) ∧ SNat (ofT F62) := by
  refine fn0 g0 Tryd.func62 (by kernel_rfl) fun ρ avs k r h => ?_
  unfold F62 at h
  split at h
  · rename_i s p
    obtain ⟨hc, hk⟩ := gd_some h
    refine Eq.trans (b := bif decide ((↑s.length : Int) ≥ (↑p.length : Int)) then bif slb (0 : Int) (↑p.length : Int) s.length then k (AV.bool (List.take ((↑p.length : Int).toNat - Int.toNat (0 : Int)) (List.drop (0 : Nat) s) == p)) else none else k (AV.bool false)) (by kernel_rfl) ?_
    rw [← hk]
    unfold preB
    by_cases hl : p.length ≤ s.length
    · rw [decide_eq_true (by omega : (s.length : Int) ≥ (p.length : Int)), decide_eq_true hl, slb_true (by omega) (by omega) (by omega)]
      rfl
    · rw [decide_eq_false (by omega : ¬ (s.length : Int) ≥ (p.length : Int)), decide_eq_false hl]
      rfl
  · cases h
noncomputable def G55 : Env := { pure := [(62, ofT F62)] }
theorem g55 : GOK Tryd.prog G55 := GOK.also g0 ok62
def F55 : List AV → Tr AV
  | [.str s, .str p] => .gd (small s.length && small p.length) (.br (preB s p) (.leaf (.tup [.str (s.drop p.length), .bool true])) (.leaf (.tup [.str s, .bool false])))
  | _ => .no
theorem ok55 : SumOK Tryd.prog 55 (ofT F55) ∧ SNat (ofT F55) := by
  refine fn0 g55 Tryd.func55 (by kernel_rfl) fun ρ avs k r h => ?_
  unfold F55 at h
  split at h
  · rename_i s p
    obtain ⟨hc, hk⟩ := gd_some h
    refine Eq.trans (b := bif small s.length && small p.length then bif !preB s p then k (AV.tup [AV.str s, AV.bool false]) else bif slb (↑p.length : Int) (↑s.length : Int) s.length then k (AV.tup [AV.str (List.take ((↑s.length : Int).toNat - (↑p.length : Int).toNat) (List.drop (↑p.length : Int).toNat s)), AV.bool true]) else none else none) (by kernel_rfl) ?_
    rw [← hk, hc]
    simp only [Int.toNat_natCast]
    cases hp : preB s p
    · rfl
    · have hl : p.length ≤ s.length := by
        unfold preB at hp
        simp only [Bool.and_eq_true] at hp
        exact of_decide_eq_true hp.1
      rw [slb_true (by omega) (by omega) (by omega), List.take_of_length_le (by rw [List.length_drop]; exact Nat.le_refl _)]
      rfl
  · cases h
noncomputable def G43 : Env := { pure := [(55, ofT F55)] }
theorem g43 : GOK Tryd.prog G43 := GOK.also g0 ok55
def F43 : List AV → Tr AV
  | [.str s, .str p] => .gd (small s.length && small p.length) (.br (preB s p) (.leaf (.tup [.str (s.drop p.length), .bool true])) (.leaf (.tup [.str s, .bool false])))
  | _ => .no
theorem ok43 : SumOK Tryd.prog 43 (ofT F43) ∧ SNat (ofT F43) := by
  refine fn0 g43 Tryd.func43 (by kernel_rfl) fun ρ avs k r h => ?_
  unfold F43 at h
  split at h
  · rename_i s p
    obtain ⟨hc, hk⟩ := gd_some h
    refine Eq.trans (b := bif small s.length && small p.length then bif preB s p then k (AV.tup [AV.str (List.drop p.length s), AV.bool true]) else k (AV.tup [AV.str s, AV.bool false]) else none) (by kernel_rfl) ?_
    rw [← hk, hc]
    show (bif preB s p then _ else _) = bif preB s p then _ else _
    cases preB s p <;> rfl
  · cases h
def txtS (r q : Int) (s : List UInt8) : List UInt8 := signS r ++ wordS q ++ s
noncomputable def G36 : Env := { pure := [(44, ofT F44)] }
theorem g36 : GOK Tryd.prog G36 := GOK.also g0 ok44
theorem word_len (q : Int) : (wordS q).length ≤ 8 := by
  unfold wordS
  cases q == 1 <;> cases q == 2 <;> cases q == 3 <;> decide
def F36 : List AV → Tr AV
  | [.agg [.int .i64 r, .int .i64 q, .str s]] => .gd (inR r 1 4 && (inR q 1 4 && decide (s.length ≤ 1000))) (.leaf (.str (txtS r q s)))
  | _ => .no
theorem ok36 : SumOK Tryd.prog 36 (ofT F36) ∧ SNat (ofT F36) := by
  refine fn0 g36 Tryd.func36 (by kernel_rfl) fun ρ avs k r h => ?_
  unfold F36 at h
  split at h
  · rename_i r q s
    obtain ⟨hc, hk⟩ := gd_some h
    refine Eq.trans (b := bif slb r (IntKind.i64.wrap (r + (1 : Int))) ([(32 : UInt8), (43 : UInt8), (45 : UInt8), (126 : UInt8), (63 : UInt8)] : List UInt8).length then bif inR q (1 : Int) (4 : Int) then bif lenB ((List.take ((IntKind.i64.wrap (r + (1 : Int))).toNat - r.toNat) (List.drop r.toNat ([(32 : UInt8), (43 : UInt8), (45 : UInt8), (126 : UInt8), (63 : UInt8)] : List UInt8))).length + (wordS q).length) then bif lenB ((List.take ((IntKind.i64.wrap (r + (1 : Int))).toNat - r.toNat) (List.drop r.toNat ([(32 : UInt8), (43 : UInt8), (45 : UInt8), (126 : UInt8), (63 : UInt8)] : List UInt8)) ++ wordS q).length + s.length) then k (AV.str (List.take ((IntKind.i64.wrap (r + (1 : Int))).toNat - r.toNat) (List.drop r.toNat ([(32 : UInt8), (43 : UInt8), (45 : UInt8), (126 : UInt8), (63 : UInt8)] : List UInt8)) ++ wordS q ++ s)) else none else none else none else none) (by kernel_rfl) ?_
    rw [← hk]
    simp only [Bool.and_eq_true] at hc
    obtain ⟨h1, h2, h3⟩ := hc
    have h3 := of_decide_eq_true h3
    have hw := word_len q
    have key : ∀ u : List UInt8, u.length = 1 → (bif inR q 1 4 then bif lenB (u.length + (wordS q).length) then bif lenB ((u ++ wordS q).length + s.length) then k (.str (u ++ wordS q ++ s)) else none else none else none) = k (.str (u ++ wordS q ++ s)) := fun u hu => by
      rw [h2, show lenB (u.length + (wordS q).length) = true from decide_eq_true (by omega), show lenB ((u ++ wordS q).length + s.length) = true from decide_eq_true (by rw [List.length_append]; omega)]
      rfl
    rcases inR4 h1 with rfl | rfl | rfl | rfl
    · exact key [43] rfl
    · exact key [45] rfl
    · exact key [126] rfl
    · exact key [63] rfl
  · cases h
end Go.Proofs.YtegeegibnckkkaaDoor

/-
  The text of a policy: the document's and the program's.
-/
namespace Go.Proofs.YtegeegibnckkkaaDoor
open Go.Ev

def okT (e : AV) : Bool := inR (rR e) 1 4 && (inR (rK e) 1 4 && decide ((rS e).length ≤ 1000))
def txtE (e : AV) : List UInt8 := txtS (rR e) (rK e) (rS e)
def tail (es : List AV) : List UInt8 := es.flatMap fun e => 32 :: txtE e
theorem sign_len (r : Int) : (signS r).length = 1 := by
  unfold signS
  cases r == 1 <;> cases r == 2 <;> cases r == 3 <;> rfl
theorem txtE_len {e : AV} (h : okT e = true) : (txtE e).length ≤ 1009 := by
  unfold okT at h
  simp only [Bool.and_eq_true] at h
  have := of_decide_eq_true h.2.2
  have := word_len (rK e)
  unfold txtE txtS
  rw [List.length_append, List.length_append, sign_len]
  omega
theorem sgn_at {r : Int} (h : inR r 1 4 = true) : ((([.str [], .str [43], .str [45], .str [126], .str [63]] : List AV).getD r.toNat .unk).cells.headD .unk).toStr = signS r := by
  rcases inR4 h with rfl | rfl | rfl | rfl <;> rfl
theorem wrd_at {r : Int} (h : inR r 1 4 = true) : ((([.str [], .str [97, 108, 108], .str [105, 115, 58], .str [117, 110, 100, 101, 114, 58], .str [105, 110, 99, 108, 117, 100, 101, 58]] : List AV).getD r.toNat .unk).cells.headD .unk).toStr = wordS r := by
  rcases inR4 h with rfl | rfl | rfl | rfl <;> rfl
noncomputable def b22 : Code := ((Tryd.f22.body.map loopsOf).getD []).headD .skip
def L22 : List AV → List (Option Row) → Tr LOut
  | [.ptr 0 0, .str [], .str out, .int .i64 i], [some (.box false [.str s, .slv (.agg [.int .i64, .int .i64, .str]) es])] =>
    .gd (cnt es.length i es.length && (decide (es.length ≤ 60 ∧ (out.length : Int) ≤ 10000 + 2000 * i) && es.all okT)) (.leaf (.exit 0, [.ptr 0 0, .str [], .str (out ++ tail (es.drop i.toNat)), .int .i64 es.length], [some (.box false [.str s, .slv sR es])]))
  | _, _ => .no
def l22 : Ev.Loop := ⟨{ len := 38, slots := [1, 2, 3, 4], rows := [0] }, ofL L22⟩
def μ22 (vs : List AV) (rs : List (Option Row)) : Nat := match vs, rs with
  | [_, _, _, .int _ i], [some (.box _ [_, .slv _ es])] => ((es.length : Int) - i).toNat
  | _, _ => 0
theorem loop22 : LoopOK Tryd.prog G0 [(3, l22)] b22 l22 := by
  refine loopT g0.natOK rfl (KOK.nil (by kernel_rfl)) μ22 (fun ρ vs rs k r h => ?_)
  unfold L22 at h
  split at h
  · rename_i out i s es
    obtain ⟨hc, hk⟩ := gd_some h
    simp only [Bool.and_eq_true] at hc
    obtain ⟨hc, hd, hS⟩ := hc
    obtain ⟨d1, d2⟩ := of_decide_eq_true hd
    obtain ⟨_, hs, j, rfl, hj⟩ := cnt_spec hc
    simp only [Int.toNat_natCast] at hk
    refine Eq.trans (b := bif decide ((↑j : Int) < (↑es.length : Int)) then bif inb (↑j : Int) es.length then bif inb (rR (es.getD j AV.unk)) [AV.str [], AV.str [(43 : UInt8)], AV.str [(45 : UInt8)], AV.str [(126 : UInt8)], AV.str [(63 : UInt8)]].length then bif decide ((rR (es.getD j AV.unk)).toNat < [AV.str [], AV.str [(43 : UInt8)], AV.str [(45 : UInt8)], AV.str [(126 : UInt8)], AV.str [(63 : UInt8)]].length) then bif lenB (([(32 : UInt8)] : List UInt8).length + (([AV.str [], AV.str [(43 : UInt8)], AV.str [(45 : UInt8)], AV.str [(126 : UInt8)], AV.str [(63 : UInt8)]].getD (rR (es.getD j AV.unk)).toNat AV.unk).cells.headD AV.unk).toStr.length) then bif inb (rK (es.getD j AV.unk)) [AV.str [], AV.str [(97 : UInt8), (108 : UInt8), (108 : UInt8)], AV.str [(105 : UInt8), (115 : UInt8), (58 : UInt8)], AV.str [(117 : UInt8), (110 : UInt8), (100 : UInt8), (101 : UInt8), (114 : UInt8), (58 : UInt8)], AV.str [(105 : UInt8), (110 : UInt8), (99 : UInt8), (108 : UInt8), (117 : UInt8), (100 : UInt8), (101 : UInt8), (58 : UInt8)]].length then bif decide ((rK (es.getD j AV.unk)).toNat < [AV.str [], AV.str [(97 : UInt8), (108 : UInt8), (108 : UInt8)], AV.str [(105 : UInt8), (115 : UInt8), (58 : UInt8)], AV.str [(117 : UInt8), (110 : UInt8), (100 : UInt8), (101 : UInt8), (114 : UInt8), (58 : UInt8)], AV.str [(105 : UInt8), (110 : UInt8), (99 : UInt8), (108 : UInt8), (117 : UInt8), (100 : UInt8), (101 : UInt8), (58 : UInt8)]].length) then bif lenB ((([(32 : UInt8)] : List UInt8) ++ (([AV.str [], AV.str [(43 : UInt8)], AV.str [(45 : UInt8)], AV.str [(126 : UInt8)], AV.str [(63 : UInt8)]].getD (rR (es.getD j AV.unk)).toNat AV.unk).cells.headD AV.unk).toStr).length + (([AV.str [], AV.str [(97 : UInt8), (108 : UInt8), (108 : UInt8)], AV.str [(105 : UInt8), (115 : UInt8), (58 : UInt8)], AV.str [(117 : UInt8), (110 : UInt8), (100 : UInt8), (101 : UInt8), (114 : UInt8), (58 : UInt8)], AV.str [(105 : UInt8), (110 : UInt8), (99 : UInt8), (108 : UInt8), (117 : UInt8), (100 : UInt8), (101 : UInt8), (58 : UInt8)]].getD (rK (es.getD j AV.unk)).toNat AV.unk).cells.headD AV.unk).toStr.length) then bif lenB ((([(32 : UInt8)] : List UInt8) ++ (([AV.str [], AV.str [(43 : UInt8)], AV.str [(45 : UInt8)], AV.str [(126 : UInt8)], AV.str [(63 : UInt8)]].getD (rR (es.getD j AV.unk)).toNat AV.unk).cells.headD AV.unk).toStr ++ (([AV.str [], AV.str [(97 : UInt8), (108 : UInt8), (108 : UInt8)], AV.str [(105 : UInt8), (115 : UInt8), (58 : UInt8)], AV.str [(117 : UInt8), (110 : UInt8), (100 : UInt8), (101 : UInt8), (114 : UInt8), (58 : UInt8)], AV.str [(105 : UInt8), (110 : UInt8), (99 : UInt8), (108 : UInt8), (117 : UInt8), (100 : UInt8), (101 : UInt8), (58 : UInt8)]].getD (rK (es.getD j AV.unk)).toNat AV.unk).cells.headD AV.unk).toStr).length + (rS (es.getD j AV.unk)).length) then bif lenB (out.length + (([(32 : UInt8)] : List UInt8) ++ (([AV.str [], AV.str [(43 : UInt8)], AV.str [(45 : UInt8)], AV.str [(126 : UInt8)], AV.str [(63 : UInt8)]].getD (rR (es.getD j AV.unk)).toNat AV.unk).cells.headD AV.unk).toStr ++ (([AV.str [], AV.str [(97 : UInt8), (108 : UInt8), (108 : UInt8)], AV.str [(105 : UInt8), (115 : UInt8), (58 : UInt8)], AV.str [(117 : UInt8), (110 : UInt8), (100 : UInt8), (101 : UInt8), (114 : UInt8), (58 : UInt8)], AV.str [(105 : UInt8), (110 : UInt8), (99 : UInt8), (108 : UInt8), (117 : UInt8), (100 : UInt8), (101 : UInt8), (58 : UInt8)]].getD (rK (es.getD j AV.unk)).toNat AV.unk).cells.headD AV.unk).toStr ++ (rS (es.getD j AV.unk))).length) then bif decide (((↑es.length : Int) - IntKind.i64.wrap ((↑j : Int) + (1 : Int))).toNat < ((↑es.length : Int) - (↑j : Int)).toNat) then bif cnt (↑es.length : Int) (IntKind.i64.wrap ((↑j : Int) + (1 : Int))) es.length && (decide (es.length ≤ (60 : Nat) ∧ (↑(out ++ (([(32 : UInt8)] : List UInt8) ++ (([AV.str [], AV.str [(43 : UInt8)], AV.str [(45 : UInt8)], AV.str [(126 : UInt8)], AV.str [(63 : UInt8)]].getD (rR (es.getD j AV.unk)).toNat AV.unk).cells.headD AV.unk).toStr ++ (([AV.str [], AV.str [(97 : UInt8), (108 : UInt8), (108 : UInt8)], AV.str [(105 : UInt8), (115 : UInt8), (58 : UInt8)], AV.str [(117 : UInt8), (110 : UInt8), (100 : UInt8), (101 : UInt8), (114 : UInt8), (58 : UInt8)], AV.str [(105 : UInt8), (110 : UInt8), (99 : UInt8), (108 : UInt8), (117 : UInt8), (100 : UInt8), (101 : UInt8), (58 : UInt8)]].getD (rK (es.getD j AV.unk)).toNat AV.unk).cells.headD AV.unk).toStr ++ (rS (es.getD j AV.unk)))).length : Int) ≤ (10000 : Int) + (2000 : Int) * IntKind.i64.wrap ((↑j : Int) + (1 : Int))) && es.all okT) then k (Ex.exit (0 : Nat)) [AV.ptr (0 : Nat) (0 : Nat), AV.str [], AV.str (out ++ (([(32 : UInt8)] : List UInt8) ++ (([AV.str [], AV.str [(43 : UInt8)], AV.str [(45 : UInt8)], AV.str [(126 : UInt8)], AV.str [(63 : UInt8)]].getD (rR (es.getD j AV.unk)).toNat AV.unk).cells.headD AV.unk).toStr ++ (([AV.str [], AV.str [(97 : UInt8), (108 : UInt8), (108 : UInt8)], AV.str [(105 : UInt8), (115 : UInt8), (58 : UInt8)], AV.str [(117 : UInt8), (110 : UInt8), (100 : UInt8), (101 : UInt8), (114 : UInt8), (58 : UInt8)], AV.str [(105 : UInt8), (110 : UInt8), (99 : UInt8), (108 : UInt8), (117 : UInt8), (100 : UInt8), (101 : UInt8), (58 : UInt8)]].getD (rK (es.getD j AV.unk)).toNat AV.unk).cells.headD AV.unk).toStr ++ (rS (es.getD j AV.unk))) ++ tail (List.drop (IntKind.i64.wrap ((↑j : Int) + (1 : Int))).toNat es)), AV.int IntKind.i64 (↑es.length : Int)] [some (Row.box false [AV.str s, AV.slv (Sh.agg [Sh.int IntKind.i64, Sh.int IntKind.i64, Sh.str]) es])] else none else none else none else none else none else none else none else none else none else none else none else k (Ex.exit (0 : Nat)) [AV.ptr (0 : Nat) (0 : Nat), AV.str [], AV.str out, AV.int IntKind.i64 (↑j : Int)] [some (Row.box false [AV.str s, AV.slv (Sh.agg [Sh.int IntKind.i64, Sh.int IntKind.i64, Sh.str]) es])]) (by kernel_rfl) ?_
    rw [← hk]
    by_cases hlt : j < es.length
    · obtain ⟨e1, e2, e3, e4, e5⟩ := cnt_facts hlt hs
      have hok : okT (es.getD j .unk) = true := List.all_eq_true.1 hS (es.getD j .unk) (by rw [getD_eq hlt]; exact List.getElem_mem hlt)
      have hok' := hok
      unfold okT at hok'
      simp only [Bool.and_eq_true] at hok'
      obtain ⟨h1, h2, h3⟩ := hok'
      have h3 := of_decide_eq_true h3
      have r1 := inR_spec h1
      have r2 := inR_spec h2
      have sl := sign_len (rR (es.getD j .unk))
      have wl := word_len (rK (es.getD j .unk))
      rw [sgn_at h1, wrd_at h2, e3, Int.toNat_natCast]
      have ht : tail (es.drop j) = [32] ++ signS (rR (es.getD j .unk)) ++ wordS (rK (es.getD j .unk)) ++ rS (es.getD j .unk) ++ tail (es.drop (j + 1)) := by
        unfold tail
        rw [drop_getD hlt, List.flatMap_cons]
        show 32 :: (signS _ ++ wordS _ ++ rS _) ++ _ = _
        simp only [List.append_assoc, List.cons_append, List.nil_append]
      rw [ht]
      generalize signS (rR (es.getD j .unk)) = A at *
      generalize wordS (rK (es.getD j .unk)) = B at *
      generalize rS (es.getD j .unk) = C at *
      repeat (first | refine Eq.trans (cond_t (by first | with_reducible rfl | exact Bool.not_false | assumption | exact decide_eq_true (by omega) | exact inb_true (by omega) (by omega) | exact inb_true (by omega) (by show _ < ((5 : Nat) : Int); omega) | exact decide_eq_true (by show _ < 5; omega) | exact decide_eq_true (by simp only [List.length_append, List.length_cons, List.length_nil]; omega) | exact and_t e4 (and_t (decide_eq_true (by simp only [List.length_append, List.length_cons, List.length_nil]; omega)) hS))) ?_ | refine Eq.trans (cond_f (by first | with_reducible rfl | exact Bool.not_true | assumption | exact decide_eq_false (by omega))) ?_)
      rw [List.append_assoc]
      rfl
    · obtain rfl : j = es.length := by omega
      rw [decide_eq_false (by omega), List.drop_length]
      show k _ [_, _, .str out, _] _ = k _ [_, _, .str (out ++ []), _] _
      rw [List.append_nil]
      rfl
  · cases h
def F22 : List AV → Tr AV
  | [.agg [.str s, .slv (.agg [.int .i64, .int .i64, .str]) es]] => .gd (decide (es.length ≤ 60 ∧ s.length ≤ 10000) && es.all okT) (.leaf (.str (s ++ tail es)))
  | _ => .no
theorem ok22 : SumOK Tryd.prog 22 (ofT F22) ∧ SNat (ofT F22) := by
  refine fn1 (K := [(3, l22)]) (b := b22) (l := l22) g0 Tryd.func22 (by kernel_rfl) (by kernel_rfl) loop22 fun ρ avs k r h => ?_
  unfold F22 at h
  split at h
  · rename_i s es
    obtain ⟨hc, hk⟩ := gd_some h
    simp only [Bool.and_eq_true] at hc
    obtain ⟨hd, hS⟩ := hc
    obtain ⟨d1, d2⟩ := of_decide_eq_true hd
    refine Eq.trans (b := bif cnt (↑es.length : Int) (0 : Int) es.length && (decide (es.length ≤ (60 : Nat) ∧ (↑s.length : Int) ≤ (10000 : Int) + (2000 : Int) * (0 : Int)) && es.all okT) then k (AV.str (s ++ tail (List.drop (0 : Nat) es))) else none) (by kernel_rfl) ?_
    rw [← hk]
    rw [cnt_zero (show small es.length = true from decide_eq_true (by omega)), hS, decide_eq_true (by omega)]
    rfl
  · cases h
end Go.Proofs.YtegeegibnckkkaaDoor

/-
  Print.
-/
namespace Go.Proofs.YtegeegibnckkkaaDoor
open Go.Ev

noncomputable def G19 : Env := { pure := [(21, ofT F20), (36, ofT F36), (24, evF Tryd.prog G0 [] Tryd.f24), (28, evF Tryd.prog G0 [] Tryd.f28), (32, evF Tryd.prog G0 [] Tryd.f32)] }
theorem g19 : GOK Tryd.prog G19 := GOK.also (GOK.also (GOK.also (GOK.also (GOK.also g0 (inl g0 Tryd.func32 (by kernel_rfl))) (inl g0 Tryd.func28 (by kernel_rfl))) (inl g0 Tryd.func24 (by kernel_rfl))) ok36) ok21
noncomputable def b19 : Code := ((Tryd.f19.body.map loopsOf).getD []).headD .skip
theorem rcE_zero {e : AV} (h : (rcE e != 0) = false) : (rS e).length ≤ 1000 := by
  unfold rcE ruleC at h
  cases h1 : inR (rR e) 1 4
  · rw [h1] at h; cases h
  · cases h2 : inR (rK e) 1 4
    · rw [h1, h2] at h; cases h
    · rw [h1, h2] at h
      cases h3 : rK e == 1
      · rw [h3] at h
        cases h4 : nmS (rS e)
        · rw [h4] at h; cases h
        · unfold nmS at h4
          simp only [Bool.and_eq_true] at h4
          have := (inR_spec h4.2).2
          omega
      · rw [h3] at h
        cases h4 : rS e == []
        · rw [h4] at h; cases h
        · have := beq_iff_eq.1 h4
          rw [this]; exact Nat.zero_le _
theorem polF_zero {s : List UInt8} {es : List AV} (h : ((polF s es).1 != 0) = false) : nmS s = true ∧ es.length ≤ 60 ∧ ∀ e ∈ es, (rcE e != 0) = false := by
  unfold polF at h
  cases h1 : nmS s
  · rw [h1] at h; cases h
  · rw [h1] at h
    by_cases h2 : (es.length : Int) > 60
    · rw [decide_eq_true h2] at h; cases h
    · rw [decide_eq_false h2] at h
      cases h3 : badR es with
      | some i =>
        rw [h3] at h
        obtain ⟨_, hi, hp, _⟩ := findN_some h3
        exfalso
        have h : (rcE (es.getD i .unk) != 0) = false := h
        have hp : (rcE (es.getD i .unk) != 0) = true := hp
        rw [h] at hp; cases hp
      | none =>
        refine ⟨rfl, by omega, fun e he => ?_⟩
        obtain ⟨i, hi, rfl⟩ := List.getElem_of_mem he
        have := findN_none h3 i (Nat.zero_le _) hi
        rw [← getD_eq hi]; exact this
theorem rcE_ok {e : AV} (h : (rcE e != 0) = false) : okT e = true := by
  have h3 := rcE_zero h
  unfold rcE ruleC at h
  unfold okT
  cases h1 : inR (rR e) 1 4
  · rw [h1] at h; cases h
  · cases h2 : inR (rK e) 1 4
    · rw [h1, h2] at h; cases h
    · rw [decide_eq_true h3]; rfl
theorem nm_len {s : List UInt8} (h : nmS s = true) : s.length ≤ 60 := by
  unfold nmS at h
  simp only [Bool.and_eq_true] at h
  have := (inR_spec h.2).2
  omega
def L19 : List AV → List (Option Row) → Tr LOut
  | [.str [], .ptr 2 0, .str out, .slv (.agg [.int .i64, .int .i64, .str]) es, .int .i64 n, .int .i64 i], [some (.box false [.int .i64 0, .int .i64 0])] =>
    .gd (cnt n i es.length && (decide (es.length ≤ 60 ∧ (out.length : Int) ≤ 10000 + 2000 * i) && es.all okT)) (.leaf (.exit 0, [.str [], .ptr 2 0, .str (out ++ tail (es.drop i.toNat)), .slv sR es, .int .i64 es.length, .int .i64 es.length], [some (.box false [.int .i64 0, .int .i64 0])]))
  | _, _ => .no
def l19 : Ev.Loop := ⟨{ len := 34, slots := [2, 3, 5, 16, 17, 18], rows := [2] }, ofL L19⟩
def μ19 (vs : List AV) (_ : List (Option Row)) : Nat := match vs with
  | [_, _, _, _, .int _ n, .int _ i] => (n - i).toNat
  | _ => 0
theorem loop19 : LoopOK Tryd.prog G19 [(6, l19)] b19 l19 := by
  refine loopT g19.natOK rfl (KOK.nil (by kernel_rfl)) μ19 (fun ρ vs rs k r h => ?_)
  unfold L19 at h
  split at h
  · rename_i out es n i
    obtain ⟨hc, hk⟩ := gd_some h
    simp only [Bool.and_eq_true] at hc
    obtain ⟨hc, hd, hS⟩ := hc
    obtain ⟨d1, d2⟩ := of_decide_eq_true hd
    obtain ⟨rfl, hs, j, rfl, hj⟩ := cnt_spec hc
    simp only [Int.toNat_natCast] at hk
    refine Eq.trans (b := bif decide ((↑j : Int) < (↑es.length : Int)) then bif inb (↑j : Int) es.length then bif inR (rR (es.getD j AV.unk)) (1 : Int) (4 : Int) && (inR (rK (es.getD j AV.unk)) (1 : Int) (4 : Int) && decide ((rS (es.getD j AV.unk)).length ≤ (1000 : Nat))) then bif lenB (([(32 : UInt8)] : List UInt8).length + (txtS (rR (es.getD j AV.unk)) (rK (es.getD j AV.unk)) (rS (es.getD j AV.unk))).length) then bif lenB (out.length + (([(32 : UInt8)] : List UInt8) ++ txtS (rR (es.getD j AV.unk)) (rK (es.getD j AV.unk)) (rS (es.getD j AV.unk))).length) then bif decide (((↑es.length : Int) - IntKind.i64.wrap ((↑j : Int) + (1 : Int))).toNat < ((↑es.length : Int) - (↑j : Int)).toNat) then bif cnt (↑es.length : Int) (IntKind.i64.wrap ((↑j : Int) + (1 : Int))) es.length && (decide (es.length ≤ (60 : Nat) ∧ (↑(out ++ (([(32 : UInt8)] : List UInt8) ++ txtS (rR (es.getD j AV.unk)) (rK (es.getD j AV.unk)) (rS (es.getD j AV.unk)))).length : Int) ≤ (10000 : Int) + (2000 : Int) * IntKind.i64.wrap ((↑j : Int) + (1 : Int))) && es.all okT) then k (Ex.exit (0 : Nat)) [AV.str [], AV.ptr (2 : Nat) (0 : Nat), AV.str (out ++ (([(32 : UInt8)] : List UInt8) ++ txtS (rR (es.getD j AV.unk)) (rK (es.getD j AV.unk)) (rS (es.getD j AV.unk))) ++ tail (List.drop (IntKind.i64.wrap ((↑j : Int) + (1 : Int))).toNat es)), AV.slv (Sh.agg [Sh.int IntKind.i64, Sh.int IntKind.i64, Sh.str]) es, AV.int IntKind.i64 (↑es.length : Int), AV.int IntKind.i64 (↑es.length : Int)] [some (Row.box false [AV.int IntKind.i64 (0 : Int), AV.int IntKind.i64 (0 : Int)])] else none else none else none else none else none else none else k (Ex.exit (0 : Nat)) [AV.str [], AV.ptr (2 : Nat) (0 : Nat), AV.str out, AV.slv (Sh.agg [Sh.int IntKind.i64, Sh.int IntKind.i64, Sh.str]) es, AV.int IntKind.i64 (↑es.length : Int), AV.int IntKind.i64 (↑j : Int)] [some (Row.box false [AV.int IntKind.i64 (0 : Int), AV.int IntKind.i64 (0 : Int)])]) (by kernel_rfl) ?_
    rw [← hk]
    by_cases hlt : j < es.length
    · obtain ⟨e1, e2, e3, e4, e5⟩ := cnt_facts hlt hs
      have hok : okT (es.getD j .unk) = true := List.all_eq_true.1 hS (es.getD j .unk) (by rw [getD_eq hlt]; exact List.getElem_mem hlt)
      have hl := txtE_len hok
      have ht : tail (es.drop j) = [32] ++ txtE (es.getD j .unk) ++ tail (es.drop (j + 1)) := by
        unfold tail
        rw [drop_getD hlt, List.flatMap_cons]
        rfl
      have hx : txtS (rR (es.getD j .unk)) (rK (es.getD j .unk)) (rS (es.getD j .unk)) = txtE (es.getD j .unk) := rfl
      have hy : (inR (rR (es.getD j .unk)) 1 4 && (inR (rK (es.getD j .unk)) 1 4 && decide ((rS (es.getD j .unk)).length ≤ 1000))) = true := hok
      rw [ht, hx, e3, Int.toNat_natCast]
      generalize txtE (es.getD j .unk) = A at *
      repeat (first | refine Eq.trans (cond_t (by first | with_reducible rfl | exact Bool.not_false | assumption | exact decide_eq_true (by omega) | exact inb_true (by omega) (by omega) | exact hy | exact decide_eq_true (by simp only [List.length_append, List.length_cons, List.length_nil]; omega) | exact and_t e4 (and_t (decide_eq_true (by simp only [List.length_append, List.length_cons, List.length_nil]; omega)) hS))) ?_ | refine Eq.trans (cond_f (by first | with_reducible rfl | exact Bool.not_true | assumption | exact decide_eq_false (by omega))) ?_)
      rw [List.append_assoc]
      rfl
    · obtain rfl : j = es.length := by omega
      rw [decide_eq_false (by omega), List.drop_length]
      show k _ [_, _, .str out, _, _, _] _ = k _ [_, _, .str (out ++ []), _, _, _] _
      rw [List.append_nil]
      rfl
  · cases h
def F19 : List AV → Tr AV
  | [.agg [.str s, .slv (.agg [.int .i64, .int .i64, .str]) es]] => .gd (small s.length && (small es.length && smR es)) (.br ((polF s es).1 != 0) (.leaf (.tup [.str [], fault (polF s es)])) (.br (decide ((s ++ tail es).length > 4000)) (.leaf (.tup [.str [], fault (1, -1)])) (.leaf (.tup [.str (s ++ tail es), fault (0, 0)]))))
  | _ => .no
theorem ok19 : SumOK Tryd.prog 19 (ofT F19) ∧ SNat (ofT F19) := by
  refine fn1 (K := [(6, l19)]) (b := b19) (l := l19) g19 Tryd.func19 (by kernel_rfl) (by kernel_rfl) loop19 fun ρ avs k r h => ?_
  unfold F19 at h
  split at h
  · rename_i s es
    obtain ⟨hc, hk⟩ := gd_some h
    refine Eq.trans (b := bif small s.length && (small es.length && smR es) then bif (polF s es).fst != (0 : Int) then k (AV.tup [AV.str [], AV.agg [AV.int IntKind.i64 (polF s es).fst, AV.int IntKind.i64 (polF s es).snd]]) else bif cnt (↑es.length : Int) (0 : Int) es.length && (decide (es.length ≤ (60 : Nat) ∧ (↑s.length : Int) ≤ (10000 : Int) + (2000 : Int) * (0 : Int)) && es.all okT) then bif decide ((↑(s ++ tail (List.drop (0 : Nat) es)).length : Int) > (4000 : Int)) then k (AV.tup [AV.str [], AV.agg [AV.int IntKind.i64 (1 : Int), AV.int IntKind.i64 (-1 : Int)]]) else k (AV.tup [AV.str (s ++ tail (List.drop (0 : Nat) es)), AV.agg [AV.int IntKind.i64 (0 : Int), AV.int IntKind.i64 (0 : Int)]]) else none else none) (by kernel_rfl) ?_
    rw [← hk, hc]
    show (bif true then bif (polF s es).1 != 0 then _ else _ else _) = (bif (polF s es).1 != 0 then _ else _)
    cases hp : (polF s es).1 != 0
    · obtain ⟨p1, p2, p3⟩ := polF_zero hp
      have hall : es.all okT = true := List.all_eq_true.2 fun e he => rcE_ok (p3 e he)
      have := nm_len p1
      rw [cnt_zero (show small es.length = true from decide_eq_true (by omega)), hall, List.drop_zero, show decide (es.length ≤ 60 ∧ (s.length : Int) ≤ 10000 + 2000 * 0) = true from decide_eq_true (by omega)]
      by_cases hl : (s ++ tail es).length > 4000
      · rw [show decide (((s ++ tail es).length : Int) > 4000) = true from decide_eq_true (by omega)]
        show _ = (bif decide _ then _ else _)
        rw [decide_eq_true hl]
        rfl
      · rw [show decide (((s ++ tail es).length : Int) > 4000) = false from decide_eq_false (by omega)]
        show _ = (bif decide _ then _ else _)
        rw [decide_eq_false hl]
        rfl
    · rfl
  · cases h
end Go.Proofs.YtegeegibnckkkaaDoor

/-
  Rules are read: the program's.
-/
namespace Go.Proofs.YtegeegibnckkkaaDoor
open Go.Ev

noncomputable def G42 : Env := { pure := [(54, ofT F54)] }
theorem g42 : GOK Tryd.prog G42 := GOK.also g0 ok54
noncomputable def G27 : Env := { pure := [(42, evF Tryd.prog G42 [] Tryd.f42), (44, ofT F44), (43, ofT F43), (38, ofT F38)] }
theorem g27 : GOK Tryd.prog G27 := GOK.also (GOK.also (GOK.also (GOK.also g0 ok38) ok43) ok44) (inl g42 Tryd.func42 (by kernel_rfl))
noncomputable def b27 : Code := ((Tryd.f27.body.map loopsOf).getD []).headD .skip
def nameAt (t : List UInt8) (k : Int) : List UInt8 := bif preB t (wordS k) then t.drop (wordS k).length else t
def hitAt (r : Int) (t : List UInt8) (k : Int) : Bool := preB t (wordS k) && ruleC r k (t.drop (wordS k).length) == 0
/-- The first kind, from one on, whose word begins the text. -/
def fK (r : Int) (t : List UInt8) : Nat → Int → Option Int
  | 0, _ => none
  | n + 1, k => bif hitAt r t k then some k else fK r t n (k + 1)
def L27 : List AV → List (Option Row) → Tr LOut
  | [.str s, .ptr 0 0, .bool false, .ptr 196 0, .int .i64 k], [some (.box false [.int .i64 0, .int .i64 0, .str []]), some (.box false [.int .i64 r, .int .i64 q, .str nm])] =>
    .gd (inR k 1 5 && decide (1 ≤ s.length ∧ s.length ≤ 100000)) (.br (fK r (s.drop 1) (5 - k).toNat k).isSome
      (.leaf (.ret, [.str s, .ptr 0 0, .bool true, .ptr 196 0, .int .i64 ((fK r (s.drop 1) (5 - k).toNat k).getD 0)], [some (.box false [.int .i64 r, .int .i64 ((fK r (s.drop 1) (5 - k).toNat k).getD 0), .str ((s.drop 1).drop (wordS ((fK r (s.drop 1) (5 - k).toNat k).getD 0)).length)]), some (.box false [.int .i64 r, .int .i64 ((fK r (s.drop 1) (5 - k).toNat k).getD 0), .str ((s.drop 1).drop (wordS ((fK r (s.drop 1) (5 - k).toNat k).getD 0)).length)])]))
      (.br (decide (k ≤ 4))
        (.leaf (.exit 0, [.str s, .ptr 0 0, .bool false, .ptr 196 0, .int .i64 5], [some (.box false [.int .i64 0, .int .i64 0, .str []]), some (.box false [.int .i64 r, .int .i64 4, .str (nameAt (s.drop 1) 4)])]))
        (.leaf (.exit 0, [.str s, .ptr 0 0, .bool false, .ptr 196 0, .int .i64 5], [some (.box false [.int .i64 0, .int .i64 0, .str []]), some (.box false [.int .i64 r, .int .i64 q, .str nm])]))))
  | _, _ => .no
def l27 : Ev.Loop := ⟨{ len := 39, slots := [0, 2, 3, 4, 5], rows := [0, 196] }, ofL L27⟩
def μ27 (vs : List AV) (_ : List (Option Row)) : Nat := match vs with
  | [_, _, _, _, .int _ k] => (5 - k).toNat
  | _ => 0
theorem loop27 : LoopOK Tryd.prog G27 [(5, l27)] b27 l27 := by
  refine loopT g27.natOK rfl (KOK.nil (by kernel_rfl)) μ27 (fun ρ vs rs kk r h => ?_)
  unfold L27 at h
  split at h
  · rename_i s k r q nm
    obtain ⟨hc, hk⟩ := gd_some h
    simp only [Bool.and_eq_true] at hc
    obtain ⟨hc, hd⟩ := hc
    have hd' := of_decide_eq_true hd
    have h5 := inR_spec hc
    refine Eq.trans (b := bif decide (k ≤ (4 : Int)) then bif slb (1 : Int) (↑s.length : Int) s.length then bif inR k (1 : Int) (4 : Int) then bif small (List.take ((↑s.length : Int).toNat - Int.toNat (1 : Int)) (List.drop (Int.toNat (1 : Int)) s)).length && small (wordS k).length then bif preB (List.take ((↑s.length : Int).toNat - Int.toNat (1 : Int)) (List.drop (Int.toNat (1 : Int)) s)) (wordS k) then bif small (List.drop (wordS k).length (List.take ((↑s.length : Int).toNat - Int.toNat (1 : Int)) (List.drop (Int.toNat (1 : Int)) s))).length then bif ruleC r k (List.drop (wordS k).length (List.take ((↑s.length : Int).toNat - Int.toNat (1 : Int)) (List.drop (Int.toNat (1 : Int)) s))) == (0 : Int) then kk Ex.ret [AV.str s, AV.ptr (0 : Nat) (0 : Nat), AV.bool true, AV.ptr (196 : Nat) (0 : Nat), AV.int IntKind.i64 k] [some (Row.box false [AV.int IntKind.i64 r, AV.int IntKind.i64 k, AV.str (List.drop (wordS k).length (List.take ((↑s.length : Int).toNat - Int.toNat (1 : Int)) (List.drop (Int.toNat (1 : Int)) s)))]), some (Row.box false [AV.int IntKind.i64 r, AV.int IntKind.i64 k, AV.str (List.drop (wordS k).length (List.take ((↑s.length : Int).toNat - Int.toNat (1 : Int)) (List.drop (Int.toNat (1 : Int)) s)))])] else bif decide (((5 : Int) - IntKind.i64.wrap (k + (1 : Int))).toNat < ((5 : Int) - k).toNat) then bif inR (IntKind.i64.wrap (k + (1 : Int))) (1 : Int) (5 : Int) && decide ((1 : Nat) ≤ s.length ∧ s.length ≤ (100000 : Nat)) then bif (fK r (List.drop (1 : Nat) s) ((5 : Int) - IntKind.i64.wrap (k + (1 : Int))).toNat (IntKind.i64.wrap (k + (1 : Int)))).isSome then kk Ex.ret [AV.str s, AV.ptr (0 : Nat) (0 : Nat), AV.bool true, AV.ptr (196 : Nat) (0 : Nat), AV.int IntKind.i64 ((fK r (List.drop (1 : Nat) s) ((5 : Int) - IntKind.i64.wrap (k + (1 : Int))).toNat (IntKind.i64.wrap (k + (1 : Int)))).getD (0 : Int))] [some (Row.box false [AV.int IntKind.i64 r, AV.int IntKind.i64 ((fK r (List.drop (1 : Nat) s) ((5 : Int) - IntKind.i64.wrap (k + (1 : Int))).toNat (IntKind.i64.wrap (k + (1 : Int)))).getD (0 : Int)), AV.str (List.drop (wordS ((fK r (List.drop (1 : Nat) s) ((5 : Int) - IntKind.i64.wrap (k + (1 : Int))).toNat (IntKind.i64.wrap (k + (1 : Int)))).getD (0 : Int))).length (List.drop (1 : Nat) s))]), some (Row.box false [AV.int IntKind.i64 r, AV.int IntKind.i64 ((fK r (List.drop (1 : Nat) s) ((5 : Int) - IntKind.i64.wrap (k + (1 : Int))).toNat (IntKind.i64.wrap (k + (1 : Int)))).getD (0 : Int)), AV.str (List.drop (wordS ((fK r (List.drop (1 : Nat) s) ((5 : Int) - IntKind.i64.wrap (k + (1 : Int))).toNat (IntKind.i64.wrap (k + (1 : Int)))).getD (0 : Int))).length (List.drop (1 : Nat) s))])] else bif decide (IntKind.i64.wrap (k + (1 : Int)) ≤ (4 : Int)) then kk (Ex.exit (0 : Nat)) [AV.str s, AV.ptr (0 : Nat) (0 : Nat), AV.bool false, AV.ptr (196 : Nat) (0 : Nat), AV.int IntKind.i64 (5 : Int)] [some (Row.box false [AV.int IntKind.i64 (0 : Int), AV.int IntKind.i64 (0 : Int), AV.str []]), some (Row.box false [AV.int IntKind.i64 r, AV.int IntKind.i64 (4 : Int), AV.str (nameAt (List.drop (1 : Nat) s) (4 : Int))])] else kk (Ex.exit (0 : Nat)) [AV.str s, AV.ptr (0 : Nat) (0 : Nat), AV.bool false, AV.ptr (196 : Nat) (0 : Nat), AV.int IntKind.i64 (5 : Int)] [some (Row.box false [AV.int IntKind.i64 (0 : Int), AV.int IntKind.i64 (0 : Int), AV.str []]), some (Row.box false [AV.int IntKind.i64 r, AV.int IntKind.i64 k, AV.str (List.drop (wordS k).length (List.take ((↑s.length : Int).toNat - Int.toNat (1 : Int)) (List.drop (Int.toNat (1 : Int)) s)))])] else none else none else none else bif decide (((5 : Int) - IntKind.i64.wrap (k + (1 : Int))).toNat < ((5 : Int) - k).toNat) then bif inR (IntKind.i64.wrap (k + (1 : Int))) (1 : Int) (5 : Int) && decide ((1 : Nat) ≤ s.length ∧ s.length ≤ (100000 : Nat)) then bif (fK r (List.drop (1 : Nat) s) ((5 : Int) - IntKind.i64.wrap (k + (1 : Int))).toNat (IntKind.i64.wrap (k + (1 : Int)))).isSome then kk Ex.ret [AV.str s, AV.ptr (0 : Nat) (0 : Nat), AV.bool true, AV.ptr (196 : Nat) (0 : Nat), AV.int IntKind.i64 ((fK r (List.drop (1 : Nat) s) ((5 : Int) - IntKind.i64.wrap (k + (1 : Int))).toNat (IntKind.i64.wrap (k + (1 : Int)))).getD (0 : Int))] [some (Row.box false [AV.int IntKind.i64 r, AV.int IntKind.i64 ((fK r (List.drop (1 : Nat) s) ((5 : Int) - IntKind.i64.wrap (k + (1 : Int))).toNat (IntKind.i64.wrap (k + (1 : Int)))).getD (0 : Int)), AV.str (List.drop (wordS ((fK r (List.drop (1 : Nat) s) ((5 : Int) - IntKind.i64.wrap (k + (1 : Int))).toNat (IntKind.i64.wrap (k + (1 : Int)))).getD (0 : Int))).length (List.drop (1 : Nat) s))]), some (Row.box false [AV.int IntKind.i64 r, AV.int IntKind.i64 ((fK r (List.drop (1 : Nat) s) ((5 : Int) - IntKind.i64.wrap (k + (1 : Int))).toNat (IntKind.i64.wrap (k + (1 : Int)))).getD (0 : Int)), AV.str (List.drop (wordS ((fK r (List.drop (1 : Nat) s) ((5 : Int) - IntKind.i64.wrap (k + (1 : Int))).toNat (IntKind.i64.wrap (k + (1 : Int)))).getD (0 : Int))).length (List.drop (1 : Nat) s))])] else bif decide (IntKind.i64.wrap (k + (1 : Int)) ≤ (4 : Int)) then kk (Ex.exit (0 : Nat)) [AV.str s, AV.ptr (0 : Nat) (0 : Nat), AV.bool false, AV.ptr (196 : Nat) (0 : Nat), AV.int IntKind.i64 (5 : Int)] [some (Row.box false [AV.int IntKind.i64 (0 : Int), AV.int IntKind.i64 (0 : Int), AV.str []]), some (Row.box false [AV.int IntKind.i64 r, AV.int IntKind.i64 (4 : Int), AV.str (nameAt (List.drop (1 : Nat) s) (4 : Int))])] else kk (Ex.exit (0 : Nat)) [AV.str s, AV.ptr (0 : Nat) (0 : Nat), AV.bool false, AV.ptr (196 : Nat) (0 : Nat), AV.int IntKind.i64 (5 : Int)] [some (Row.box false [AV.int IntKind.i64 (0 : Int), AV.int IntKind.i64 (0 : Int), AV.str []]), some (Row.box false [AV.int IntKind.i64 r, AV.int IntKind.i64 k, AV.str (List.take ((↑s.length : Int).toNat - Int.toNat (1 : Int)) (List.drop (Int.toNat (1 : Int)) s))])] else none else none else none else none else none else kk (Ex.exit (0 : Nat)) [AV.str s, AV.ptr (0 : Nat) (0 : Nat), AV.bool false, AV.ptr (196 : Nat) (0 : Nat), AV.int IntKind.i64 k] [some (Row.box false [AV.int IntKind.i64 (0 : Int), AV.int IntKind.i64 (0 : Int), AV.str []]), some (Row.box false [AV.int IntKind.i64 r, AV.int IntKind.i64 q, AV.str nm])]) (by kernel_rfl) ?_
    rw [← hk]
    by_cases hlt : k ≤ 4
    · have ht : List.take ((s.length : Int).toNat - Int.toNat 1) (List.drop (Int.toNat 1) s) = s.drop 1 := List.take_of_length_le (by rw [List.length_drop]; exact Nat.le_refl _)
      have w : IntKind.i64.wrap (k + 1) = k + 1 := wrap_mid _ (by omega) (by omega)
      have hf : fK r (s.drop 1) (5 - k).toNat k = bif hitAt r (s.drop 1) k then some k else fK r (s.drop 1) (5 - (k + 1)).toNat (k + 1) := by
        rw [show (5 - k).toNat = (5 - (k + 1)).toNat + 1 from by omega]; rfl
      have hh : hitAt r (s.drop 1) k = (preB (s.drop 1) (wordS k) && ruleC r k ((s.drop 1).drop (wordS k).length) == 0) := rfl
      have hl1 : (s.drop 1).length ≤ 100000 := by rw [List.length_drop]; omega
      have hw := word_len k
      have s1 : (small (s.drop 1).length && small (wordS k).length) = true := and_t (decide_eq_true (by omega)) (decide_eq_true (by omega))
      have s2 : small ((s.drop 1).drop (wordS k).length).length = true := decide_eq_true (by rw [List.length_drop]; omega)
      have s3 : inR k 1 4 = true := inR_of h5.1 hlt
      have s4 : (inR (k + 1) 1 5 && decide (1 ≤ s.length ∧ s.length ≤ 100000)) = true := and_t (inR_of (by omega) (by omega)) hd
      have s5 : slb 1 (s.length : Int) s.length = true := slb_true (by omega) (by omega) (by omega)
      have s6 : decide ((5 - (k + 1)).toNat < (5 - k).toNat) = true := decide_eq_true (by omega)
      have hN : nameAt (s.drop 1) k = bif preB (s.drop 1) (wordS k) then (s.drop 1).drop (wordS k).length else s.drop 1 := rfl
      rw [ht, hf, hh, w, s1, s2, s3, s4, s5, s6, decide_eq_true hlt]
      have fin : ∀ nm' : List UInt8, nameAt (s.drop 1) k = nm' → (bif decide (k + 1 ≤ 4) then kk (Ex.exit 0) [.str s, .ptr 0 0, .bool false, .ptr 196 0, .int .i64 5] [some (Row.box false [.int .i64 0, .int .i64 0, .str []]), some (Row.box false [.int .i64 r, .int .i64 4, .str (nameAt (s.drop 1) 4)])] else kk (Ex.exit 0) [.str s, .ptr 0 0, .bool false, .ptr 196 0, .int .i64 5] [some (Row.box false [.int .i64 0, .int .i64 0, .str []]), some (Row.box false [.int .i64 r, .int .i64 k, .str nm'])]) = kk (Ex.exit 0) [.str s, .ptr 0 0, .bool false, .ptr 196 0, .int .i64 5] [some (Row.box false [.int .i64 0, .int .i64 0, .str []]), some (Row.box false [.int .i64 r, .int .i64 4, .str (nameAt (s.drop 1) 4)])] := fun nm' hnm => by
        by_cases h4 : k + 1 ≤ 4
        · rw [decide_eq_true h4]; rfl
        · obtain rfl : k = 4 := by omega
          rw [decide_eq_false h4, ← hnm]; rfl
      generalize fK r (s.drop 1) (5 - (k + 1)).toNat (k + 1) = X
      cases hp : preB (s.drop 1) (wordS k)
      · rw [hp] at hN
        cases X with
        | none => exact fin _ hN
        | some x => rfl
      · rw [hp] at hN
        cases hr : ruleC r k ((s.drop 1).drop (wordS k).length) == 0
        · cases X with
          | none => exact fin _ hN
          | some x => rfl
        · rfl
    · obtain rfl : k = 5 := by omega
      rfl
  · cases h
/-- The result that the first byte stands for; -1 or 0: none. -/
def rO (s : List UInt8) : Int := idxB [32, 43, 45, 126, 63] ((s.getD 0 0).toNat : Int)
def kO (s : List UInt8) : Option Int := fK (rO s) (s.drop 1) 4 1
def F27 : List AV → Tr AV
  | [.str s] => .gd (decide (s.length ≤ 100000)) (.br (s == []) (.leaf (.tup [.agg [.int .i64 0, .int .i64 0, .str []], .bool false])) (.br (kO s).isSome (.leaf (.tup [.agg [.int .i64 (rO s), .int .i64 ((kO s).getD 0), .str ((s.drop 1).drop (wordS ((kO s).getD 0)).length)], .bool true])) (.leaf (.tup [.agg [.int .i64 0, .int .i64 0, .str []], .bool false]))))
  | _ => .no
theorem ok27 : SumOK Tryd.prog 27 (ofT F27) ∧ SNat (ofT F27) := by
  refine fn1 (K := [(5, l27)]) (b := b27) (l := l27) g27 Tryd.func27 (by kernel_rfl) (by kernel_rfl) loop27 fun ρ avs k r h => ?_
  unfold F27 at h
  split at h
  · rename_i s
    obtain ⟨hc, hk⟩ := gd_some h
    have hc := of_decide_eq_true hc
    refine Eq.trans (b := bif s == ([] : List UInt8) then k (AV.tup [AV.agg [AV.int IntKind.i64 (0 : Int), AV.int IntKind.i64 (0 : Int), AV.str []], AV.bool false]) else bif inb (0 : Int) s.length then bif inR (1 : Int) (1 : Int) (5 : Int) && decide ((1 : Nat) ≤ s.length ∧ s.length ≤ (100000 : Nat)) then bif (fK (idxB ([(32 : UInt8), (43 : UInt8), (45 : UInt8), (126 : UInt8), (63 : UInt8)] : List UInt8) (↑(s.getD (0 : Nat) (0 : UInt8)).toNat : Int)) (List.drop (1 : Nat) s) ((5 : Int) - (1 : Int)).toNat (1 : Int)).isSome then k (AV.tup [AV.agg [AV.int IntKind.i64 (idxB ([(32 : UInt8), (43 : UInt8), (45 : UInt8), (126 : UInt8), (63 : UInt8)] : List UInt8) (↑(s.getD (0 : Nat) (0 : UInt8)).toNat : Int)), AV.int IntKind.i64 ((fK (idxB ([(32 : UInt8), (43 : UInt8), (45 : UInt8), (126 : UInt8), (63 : UInt8)] : List UInt8) (↑(s.getD (0 : Nat) (0 : UInt8)).toNat : Int)) (List.drop (1 : Nat) s) ((5 : Int) - (1 : Int)).toNat (1 : Int)).getD (0 : Int)), AV.str (List.drop (wordS ((fK (idxB ([(32 : UInt8), (43 : UInt8), (45 : UInt8), (126 : UInt8), (63 : UInt8)] : List UInt8) (↑(s.getD (0 : Nat) (0 : UInt8)).toNat : Int)) (List.drop (1 : Nat) s) ((5 : Int) - (1 : Int)).toNat (1 : Int)).getD (0 : Int))).length (List.drop (1 : Nat) s))], AV.bool true]) else k (AV.tup [AV.agg [AV.int IntKind.i64 (0 : Int), AV.int IntKind.i64 (0 : Int), AV.str []], AV.bool false]) else none else none) (by kernel_rfl) ?_
    rw [← hk]
    cases s with
    | nil => rfl
    | cons b l =>
      have e1 : inb 0 (b :: l).length = true := inb_true (by omega) (by show (0 : Int) < ((l.length + 1 : Nat) : Int); omega)
      have e2 : (inR 1 1 5 && decide (1 ≤ (b :: l).length ∧ (b :: l).length ≤ 100000)) = true := and_t rfl (decide_eq_true ⟨by show 1 ≤ l.length + 1; omega, hc⟩)
      rw [e1, e2]
      show (bif (kO (b :: l)).isSome then _ else _) = (bif (kO (b :: l)).isSome then _ else _)
      cases (kO (b :: l)).isSome <;> rfl
  · cases h
end Go.Proofs.YtegeegibnckkkaaDoor

/-
  Parse.
-/
namespace Go.Proofs.YtegeegibnckkkaaDoor
open Go.Ev

noncomputable def G25 : Env := { pure := [(39, ofT F39)] }
theorem g25 : GOK Tryd.prog G25 := GOK.also g0 ok39
noncomputable def G9 : Env := { pure := [(25, evF Tryd.prog G25 [] Tryd.f25), (26, ofT F16), (27, ofT F27), (24, evF Tryd.prog G0 [] Tryd.f24), (28, evF Tryd.prog G0 [] Tryd.f28)] }
theorem g9 : GOK Tryd.prog G9 := GOK.also (GOK.also (GOK.also (GOK.also (GOK.also g0 (inl g0 Tryd.func28 (by kernel_rfl))) (inl g0 Tryd.func24 (by kernel_rfl))) ok27) ok26') (inl g25 Tryd.func25 (by kernel_rfl))
noncomputable def b9 : Code := ((Tryd.f9.body.map loopsOf).getD []).headD .skip
def strE (e : AV) : List UInt8 := (e.cells.headD .unk).toStr
def okRd (s : List UInt8) : Bool := !(s == []) && (kO s).isSome
def rdE (e : AV) : AV := .agg [.int .i64 (rO (strE e)), .int .i64 ((kO (strE e)).getD 0), .str (((strE e).drop 1).drop (wordS ((kO (strE e)).getD 0)).length)]
def badL (ts : List AV) (i : Nat) : Option Nat := findN (fun i => !okRd (strE (ts.getD i .unk))) ts.length i
def L9 : List AV → List (Option Row) → Tr LOut
  | [.ptr 0 0, .ptr 1 0, .ptr 260 0, .slv .str ts, .int .i64 n, .int .i64 i], [some (.box false [.str [], .slz (.agg [.int .i64, .int .i64, .str])]), some (.box false [.int .i64 0, .int .i64 0]), some (.box false [.str dom, .own 900]), some (.arr false (.agg [.int .i64, .int .i64, .str]) e es none)] =>
    .gd (cnt n i ts.length && (Nat.beq e 42 && (decide (ts.length ≤ 10000 ∧ (es.length : Int) ≤ i) && ts.all fun t => decide ((strE t).length ≤ 100000)))) (sT (fun i => !okRd (strE (ts.getD i .unk))) ts.length
      (fun q => .leaf (.ret, [.ptr 0 0, .ptr 1 0, .ptr 260 0, .slv .str ts, .int .i64 ts.length, .int .i64 (q : Nat)], [some (.box false [.str [], .slz sR]), some (.box false [.int .i64 11, .int .i64 (q : Nat)]), some (.box false [.str dom, .own 900]), some (.arr false sR 42 (es ++ ((ts.drop i.toNat).take (q - i.toNat)).map rdE) none)]))
      (.leaf (.exit 0, [.ptr 0 0, .ptr 1 0, .ptr 260 0, .slv .str ts, .int .i64 ts.length, .int .i64 ts.length], [some (.box false [.str [], .slz sR]), some (.box false [.int .i64 0, .int .i64 0]), some (.box false [.str dom, .own 900]), some (.arr false sR 42 (es ++ (ts.drop i.toNat).map rdE) none)])) i.toNat)
  | _, _ => .no
def l9 : Ev.Loop := ⟨{ len := 61, slots := [2, 3, 5, 29, 30, 31], rows := [0, 1, 260, 900], cells := [(260, 1, 900, 42)] }, ofL L9⟩
def μ9 (vs : List AV) (_ : List (Option Row)) : Nat := match vs with
  | [_, _, _, _, .int _ n, .int _ i] => (n - i).toNat
  | _ => 0
theorem loop9 : LoopOK Tryd.prog G9 [(8, l9)] b9 l9 := by
  refine loopT g9.natOK rfl (KOK.nil (by kernel_rfl)) μ9 (fun ρ vs rs k r h => ?_)
  unfold L9 at h
  split at h
  · rename_i ts n i dom e es
    obtain ⟨hc, hk⟩ := gd_some h
    simp only [Bool.and_eq_true] at hc
    obtain ⟨hc, he, hd, hS⟩ := hc
    obtain rfl := Nat.eq_of_beq_eq_true he
    obtain ⟨d1, d2⟩ := of_decide_eq_true hd
    obtain ⟨rfl, hs, j, rfl, hj⟩ := cnt_spec hc
    simp only [Int.toNat_natCast] at hk
    refine Eq.trans (b := bif decide ((↑j : Int) < (↑ts.length : Int)) then bif inb (↑j : Int) ts.length then bif decide ((strE (ts.getD j AV.unk)).length ≤ (100000 : Nat)) then bif (strE (ts.getD j AV.unk)) == [] then k Ex.ret [AV.ptr (0 : Nat) (0 : Nat), AV.ptr (1 : Nat) (0 : Nat), AV.ptr (260 : Nat) (0 : Nat), AV.slv Sh.str ts, AV.int IntKind.i64 (↑ts.length : Int), AV.int IntKind.i64 (↑j : Int)] [some (Row.box false [AV.str [], AV.slz (Sh.agg [Sh.int IntKind.i64, Sh.int IntKind.i64, Sh.str])]), some (Row.box false [AV.int IntKind.i64 (11 : Int), AV.int IntKind.i64 (↑j : Int)]), some (Row.box false [AV.str dom, AV.own (900 : Nat)]), some (Row.arr false (Sh.agg [Sh.int IntKind.i64, Sh.int IntKind.i64, Sh.str]) (42 : Nat) es none)] else bif (kO (strE (ts.getD j AV.unk))).isSome then bif roomB (es.length + [AV.agg [AV.int IntKind.i64 (rO (strE (ts.getD j AV.unk))), AV.int IntKind.i64 ((kO (strE (ts.getD j AV.unk))).getD (0 : Int)), AV.str (List.drop (wordS ((kO (strE (ts.getD j AV.unk))).getD (0 : Int))).length (List.drop (1 : Nat) (strE (ts.getD j AV.unk))))]].length) (Tryd.prog.bytesOf (42 : Nat)) then bif decide (((↑ts.length : Int) - IntKind.i64.wrap ((↑j : Int) + (1 : Int))).toNat < ((↑ts.length : Int) - (↑j : Int)).toNat) then bif cnt (↑ts.length : Int) (IntKind.i64.wrap ((↑j : Int) + (1 : Int))) ts.length && (Nat.beq (42 : Nat) (42 : Nat) && (decide (ts.length ≤ (10000 : Nat) ∧ (↑(es ++ [AV.agg [AV.int IntKind.i64 (rO (strE (ts.getD j AV.unk))), AV.int IntKind.i64 ((kO (strE (ts.getD j AV.unk))).getD (0 : Int)), AV.str (List.drop (wordS ((kO (strE (ts.getD j AV.unk))).getD (0 : Int))).length (List.drop (1 : Nat) (strE (ts.getD j AV.unk))))]]).length : Int) ≤ IntKind.i64.wrap ((↑j : Int) + (1 : Int))) && ts.all fun t => decide ((strE t).length ≤ (100000 : Nat)))) then bif (findN (fun i => !okRd (strE (ts.getD i AV.unk))) ts.length (IntKind.i64.wrap ((↑j : Int) + (1 : Int))).toNat).isSome then k Ex.ret [AV.ptr (0 : Nat) (0 : Nat), AV.ptr (1 : Nat) (0 : Nat), AV.ptr (260 : Nat) (0 : Nat), AV.slv Sh.str ts, AV.int IntKind.i64 (↑ts.length : Int), AV.int IntKind.i64 (↑((findN (fun i => !okRd (strE (ts.getD i AV.unk))) ts.length (IntKind.i64.wrap ((↑j : Int) + (1 : Int))).toNat).getD (0 : Nat)) : Int)] [some (Row.box false [AV.str [], AV.slz (Sh.agg [Sh.int IntKind.i64, Sh.int IntKind.i64, Sh.str])]), some (Row.box false [AV.int IntKind.i64 (11 : Int), AV.int IntKind.i64 (↑((findN (fun i => !okRd (strE (ts.getD i AV.unk))) ts.length (IntKind.i64.wrap ((↑j : Int) + (1 : Int))).toNat).getD (0 : Nat)) : Int)]), some (Row.box false [AV.str dom, AV.own (900 : Nat)]), some (Row.arr false (Sh.agg [Sh.int IntKind.i64, Sh.int IntKind.i64, Sh.str]) (42 : Nat) (es ++ [AV.agg [AV.int IntKind.i64 (rO (strE (ts.getD j AV.unk))), AV.int IntKind.i64 ((kO (strE (ts.getD j AV.unk))).getD (0 : Int)), AV.str (List.drop (wordS ((kO (strE (ts.getD j AV.unk))).getD (0 : Int))).length (List.drop (1 : Nat) (strE (ts.getD j AV.unk))))]] ++ List.map rdE (List.take ((findN (fun i => !okRd (strE (ts.getD i AV.unk))) ts.length (IntKind.i64.wrap ((↑j : Int) + (1 : Int))).toNat).getD (0 : Nat) - (IntKind.i64.wrap ((↑j : Int) + (1 : Int))).toNat) (List.drop (IntKind.i64.wrap ((↑j : Int) + (1 : Int))).toNat ts))) none)] else k (Ex.exit (0 : Nat)) [AV.ptr (0 : Nat) (0 : Nat), AV.ptr (1 : Nat) (0 : Nat), AV.ptr (260 : Nat) (0 : Nat), AV.slv Sh.str ts, AV.int IntKind.i64 (↑ts.length : Int), AV.int IntKind.i64 (↑ts.length : Int)] [some (Row.box false [AV.str [], AV.slz (Sh.agg [Sh.int IntKind.i64, Sh.int IntKind.i64, Sh.str])]), some (Row.box false [AV.int IntKind.i64 (0 : Int), AV.int IntKind.i64 (0 : Int)]), some (Row.box false [AV.str dom, AV.own (900 : Nat)]), some (Row.arr false (Sh.agg [Sh.int IntKind.i64, Sh.int IntKind.i64, Sh.str]) (42 : Nat) (es ++ [AV.agg [AV.int IntKind.i64 (rO (strE (ts.getD j AV.unk))), AV.int IntKind.i64 ((kO (strE (ts.getD j AV.unk))).getD (0 : Int)), AV.str (List.drop (wordS ((kO (strE (ts.getD j AV.unk))).getD (0 : Int))).length (List.drop (1 : Nat) (strE (ts.getD j AV.unk))))]] ++ List.map rdE (List.drop (IntKind.i64.wrap ((↑j : Int) + (1 : Int))).toNat ts)) none)] else none else none else none else k Ex.ret [AV.ptr (0 : Nat) (0 : Nat), AV.ptr (1 : Nat) (0 : Nat), AV.ptr (260 : Nat) (0 : Nat), AV.slv Sh.str ts, AV.int IntKind.i64 (↑ts.length : Int), AV.int IntKind.i64 (↑j : Int)] [some (Row.box false [AV.str [], AV.slz (Sh.agg [Sh.int IntKind.i64, Sh.int IntKind.i64, Sh.str])]), some (Row.box false [AV.int IntKind.i64 (11 : Int), AV.int IntKind.i64 (↑j : Int)]), some (Row.box false [AV.str dom, AV.own (900 : Nat)]), some (Row.arr false (Sh.agg [Sh.int IntKind.i64, Sh.int IntKind.i64, Sh.str]) (42 : Nat) es none)] else none else none else k (Ex.exit (0 : Nat)) [AV.ptr (0 : Nat) (0 : Nat), AV.ptr (1 : Nat) (0 : Nat), AV.ptr (260 : Nat) (0 : Nat), AV.slv Sh.str ts, AV.int IntKind.i64 (↑ts.length : Int), AV.int IntKind.i64 (↑j : Int)] [some (Row.box false [AV.str [], AV.slz (Sh.agg [Sh.int IntKind.i64, Sh.int IntKind.i64, Sh.str])]), some (Row.box false [AV.int IntKind.i64 (0 : Int), AV.int IntKind.i64 (0 : Int)]), some (Row.box false [AV.str dom, AV.own (900 : Nat)]), some (Row.arr false (Sh.agg [Sh.int IntKind.i64, Sh.int IntKind.i64, Sh.str]) (42 : Nat) es none)]) (by kernel_rfl) ?_
    rw [← hk]
    have b42 : Tryd.prog.bytesOf 42 ≤ 1000 := of_decide_eq_true (by kernel_rfl)
    by_cases hlt : j < ts.length
    · obtain ⟨e1, e2, e3, e4, e5⟩ := cnt_facts hlt hs
      have e6 : decide ((strE (ts.getD j .unk)).length ≤ 100000) = true := List.all_eq_true.1 hS (ts.getD j .unk) (by rw [getD_eq hlt]; exact List.getElem_mem hlt)
      have e7 : roomB (es.length + [rdE (ts.getD j .unk)].length) (Tryd.prog.bytesOf 42) = true := roomB_small (by show es.length + 1 ≤ _; omega) b42
      have hrd : AV.agg [.int .i64 (rO (strE (ts.getD j .unk))), .int .i64 ((kO (strE (ts.getD j .unk))).getD 0), .str (((strE (ts.getD j .unk)).drop 1).drop (wordS ((kO (strE (ts.getD j .unk))).getD 0)).length)] = rdE (ts.getD j .unk) := rfl
      have e8 : (cnt ts.length ((j + 1 : Nat) : Int) ts.length && (Nat.beq 42 42 && (decide (ts.length ≤ 10000 ∧ ((es ++ [rdE (ts.getD j .unk)]).length : Int) ≤ ((j + 1 : Nat) : Int)) && ts.all fun t => decide ((strE t).length ≤ 100000)))) = true := and_t e4 (and_t rfl (and_t (decide_eq_true (by rw [List.length_append]; exact ⟨d1, by show ((es.length + 1 : Nat) : Int) ≤ _; omega⟩)) hS))
      have hok : okRd (strE (ts.getD j .unk)) = (!(strE (ts.getD j .unk) == []) && (kO (strE (ts.getD j .unk))).isSome) := rfl
      rw [sT_step _ _ _ _ _ hlt, hok]
      simp only [e1, e2, e3, e5, e6, hrd, e7, e8, cond_true, Int.toNat_natCast]
      cases hz : strE (ts.getD j .unk) == []
      · cases hs2 : (kO (strE (ts.getD j .unk))).isSome
        · show k _ _ [_, _, _, some (Row.arr false sR 42 es none)] = k _ _ [_, _, _, some (Row.arr false sR 42 (es ++ ((ts.drop j).take (j - j)).map rdE) none)]
          rw [Nat.sub_self, List.take_zero, List.map_nil, List.append_nil]
          rfl
        · unfold sT
          rw [drop_getD hlt]
          cases hf : findN (fun i => !okRd (strE (ts.getD i .unk))) ts.length (j + 1) with
          | none =>
            simp only [List.append_assoc]
            rfl
          | some q =>
            obtain ⟨hq, _⟩ := findN_some hf
            simp only [List.append_assoc]
            have : ∀ l : List AV, (ts.getD j .unk :: l).take (q - j) = ts.getD j .unk :: l.take (q - (j + 1)) := fun l => by
              rw [show q - j = (q - (j + 1)) + 1 from by omega, List.take_succ_cons]
            show k _ _ _ = k _ _ [_, _, _, some (Row.arr false sR 42 (es ++ ((ts.getD j .unk :: ts.drop (j + 1)).take (q - j)).map rdE) none)]
            rw [this]
            rfl
      · show k _ _ [_, _, _, some (Row.arr false sR 42 es none)] = k _ _ [_, _, _, some (Row.arr false sR 42 (es ++ ((ts.drop j).take (j - j)).map rdE) none)]
        rw [Nat.sub_self, List.take_zero, List.map_nil, List.append_nil]
        rfl
    · obtain rfl : j = ts.length := by omega
      rw [decide_eq_false (by omega), sT_end, List.drop_length]
      show k _ _ [_, _, _, some (Row.arr false sR 42 es none)] = k _ _ [_, _, _, some (Row.arr false sR 42 (es ++ []) none)]
      rw [List.append_nil]
      rfl
  · cases h
end Go.Proofs.YtegeegibnckkkaaDoor

/-
  Parse, whole.
-/
namespace Go.Proofs.YtegeegibnckkkaaDoor
open Go.Ev

theorem split_pieces (c : UInt8) : ∀ (n : Nat) (s : List UInt8), s.length ≤ n → (∀ x ∈ (splitB c s).1, x.length ≤ s.length) ∧ (splitB c s).2.length ≤ s.length
  | n, s, hn => by
    rcases idx_spec c s with ⟨_, h2, h3⟩ | ⟨m, _, h2, h3, h4⟩
    · rw [h3]; exact ⟨fun x hx => (by cases hx), Nat.le_refl _⟩
    · match n with
      | 0 => omega
      | n + 1 =>
        rw [h4]
        have hl : (s.drop (m + 1)).length = s.length - (m + 1) := List.length_drop
        obtain ⟨i1, i2⟩ := split_pieces c n (s.drop (m + 1)) (by omega)
        refine ⟨fun x hx => ?_, by show (splitB c (s.drop (m + 1))).2.length ≤ _; omega⟩
        rcases List.mem_cons.1 hx with rfl | hx
        · rw [List.length_take]; omega
        · have := i1 x hx; omega
theorem parts_small (c : UInt8) (s : List UInt8) : ∀ x ∈ partsB c s, (strE x).length ≤ s.length := fun x hx => by
  obtain ⟨h1, h2⟩ := split_pieces c s.length s (Nat.le_refl _)
  rcases List.mem_append.1 hx with h | h
  · obtain ⟨y, hy, rfl⟩ := List.mem_map.1 h
    exact h1 y hy
  · obtain rfl := List.mem_singleton.1 h
    exact h2
theorem parts_len (c : UInt8) (s : List UInt8) : 1 ≤ (partsB c s).length ∧ (partsB c s).length ≤ s.length + 1 := by
  unfold partsB strs
  rw [List.length_append, List.length_map, split_len c s.length s (Nat.le_refl _)]
  have := cnt_len c s
  exact ⟨Nat.succ_le_succ (Nat.zero_le _), Nat.succ_le_succ this⟩
def polV (d : List UInt8) (es : List AV) : AV := .agg [.str d, .slv sR es]
def F9 : List AV → Tr AV
  | [.str s] => .br (decide ((s.length : Int) > 4000)) (.leaf (.tup [polV [] [], fault (1, -1)])) (.br (!nmS (strE ((partsB 32 s).getD 0 .unk))) (.leaf (.tup [polV [] [], fault (10, -2)]))
      (.br (badL ((partsB 32 s).drop 1) 0).isSome (.leaf (.tup [polV [] [], fault (11, (((badL ((partsB 32 s).drop 1) 0).getD 0 : Nat) : Int))]))
      (.br (decide (((partsB 32 s).drop 1).length > 60)) (.leaf (.tup [polV [] [], fault (2, -1)])) (.leaf (.tup [polV (strE ((partsB 32 s).getD 0 .unk)) (((partsB 32 s).drop 1).map rdE), fault (0, 0)])))))
  | _ => .no
theorem ok9 : SumOK Tryd.prog 9 (ofT F9) ∧ SNat (ofT F9) := by
  refine fn1 (K := [(8, l9)]) (b := b9) (l := l9) g9 Tryd.func9 (by kernel_rfl) (by kernel_rfl) loop9 fun ρ avs k r h => ?_
  unfold F9 at h
  split at h
  · rename_i s
    have hk := h
    refine Eq.trans (b := bif decide ((↑s.length : Int) > (4000 : Int)) then k (AV.tup [AV.agg [AV.str [], AV.slv (Sh.agg [Sh.int IntKind.i64, Sh.int IntKind.i64, Sh.str]) []], AV.agg [AV.int IntKind.i64 (1 : Int), AV.int IntKind.i64 (-1 : Int)]]) else bif decide (s.length ≤ (100000 : Nat)) then bif inb (0 : Int) (partsB (32 : UInt8) s).length then bif inb (0 : Int) (partsB (32 : UInt8) s).length then bif small (strE ((partsB (32 : UInt8) s).getD (0 : Nat) AV.unk)).length then bif !nmS (strE ((partsB (32 : UInt8) s).getD (0 : Nat) AV.unk)) then k (AV.tup [AV.agg [AV.str [], AV.slv (Sh.agg [Sh.int IntKind.i64, Sh.int IntKind.i64, Sh.str]) []], AV.agg [AV.int IntKind.i64 (10 : Int), AV.int IntKind.i64 (-2 : Int)]]) else bif slb (1 : Int) (↑(partsB (32 : UInt8) s).length : Int) (partsB (32 : UInt8) s).length then bif cnt (↑(List.take ((↑(partsB (32 : UInt8) s).length : Int).toNat - Int.toNat (1 : Int)) (List.drop (Int.toNat (1 : Int)) (partsB (32 : UInt8) s))).length : Int) (0 : Int) (List.take ((↑(partsB (32 : UInt8) s).length : Int).toNat - Int.toNat (1 : Int)) (List.drop (Int.toNat (1 : Int)) (partsB (32 : UInt8) s))).length && (Nat.beq ((260 : Nat), (1 : Nat), (900 : Nat), (42 : TypeId)).snd.snd.snd (42 : Nat) && (decide ((List.take ((↑(partsB (32 : UInt8) s).length : Int).toNat - Int.toNat (1 : Int)) (List.drop (Int.toNat (1 : Int)) (partsB (32 : UInt8) s))).length ≤ (10000 : Nat) ∧ (↑([] : List AV).length : Int) ≤ (0 : Int)) && (List.take ((↑(partsB (32 : UInt8) s).length : Int).toNat - Int.toNat (1 : Int)) (List.drop (Int.toNat (1 : Int)) (partsB (32 : UInt8) s))).all fun t => decide ((strE t).length ≤ (100000 : Nat)))) then bif (findN (fun i => !okRd (strE ((List.take ((↑(partsB (32 : UInt8) s).length : Int).toNat - Int.toNat (1 : Int)) (List.drop (Int.toNat (1 : Int)) (partsB (32 : UInt8) s))).getD i AV.unk))) (List.take ((↑(partsB (32 : UInt8) s).length : Int).toNat - Int.toNat (1 : Int)) (List.drop (Int.toNat (1 : Int)) (partsB (32 : UInt8) s))).length (0 : Nat)).isSome then k (AV.tup [AV.agg [AV.str [], AV.slv (Sh.agg [Sh.int IntKind.i64, Sh.int IntKind.i64, Sh.str]) []], AV.agg [AV.int IntKind.i64 (11 : Int), AV.int IntKind.i64 (↑((findN (fun i => !okRd (strE ((List.take ((↑(partsB (32 : UInt8) s).length : Int).toNat - Int.toNat (1 : Int)) (List.drop (Int.toNat (1 : Int)) (partsB (32 : UInt8) s))).getD i AV.unk))) (List.take ((↑(partsB (32 : UInt8) s).length : Int).toNat - Int.toNat (1 : Int)) (List.drop (Int.toNat (1 : Int)) (partsB (32 : UInt8) s))).length (0 : Nat)).getD (0 : Nat)) : Int)]]) else bif decide ((↑([] ++ List.map rdE (List.drop (0 : Nat) (List.take ((↑(partsB (32 : UInt8) s).length : Int).toNat - Int.toNat (1 : Int)) (List.drop (Int.toNat (1 : Int)) (partsB (32 : UInt8) s))))).length : Int) > (60 : Int)) then k (AV.tup [AV.agg [AV.str [], AV.slv (Sh.agg [Sh.int IntKind.i64, Sh.int IntKind.i64, Sh.str]) []], AV.agg [AV.int IntKind.i64 (2 : Int), AV.int IntKind.i64 (-1 : Int)]]) else k (AV.tup [AV.agg [AV.str (strE ((partsB (32 : UInt8) s).getD (0 : Nat) AV.unk)), AV.slv (Sh.agg [Sh.int IntKind.i64, Sh.int IntKind.i64, Sh.str]) ([] ++ List.map rdE (List.drop (0 : Nat) (List.take ((↑(partsB (32 : UInt8) s).length : Int).toNat - Int.toNat (1 : Int)) (List.drop (Int.toNat (1 : Int)) (partsB (32 : UInt8) s)))))], AV.agg [AV.int IntKind.i64 (0 : Int), AV.int IntKind.i64 (0 : Int)]]) else none else none else none else none else none else none) (by kernel_rfl) ?_
    rw [← hk]
    by_cases h4 : (s.length : Int) > 4000
    · rw [decide_eq_true h4]
      rfl
    · obtain ⟨p1, p2⟩ := parts_len 32 s
      have ps := parts_small 32 s
      have hx : List.take (((partsB 32 s).length : Int).toNat - Int.toNat 1) (List.drop (Int.toNat 1) (partsB 32 s)) = (partsB 32 s).drop 1 := List.take_of_length_le (by rw [List.length_drop]; exact Nat.le_refl _)
      have hl : ((partsB 32 s).drop 1).length ≤ 10000 := by rw [List.length_drop]; omega
      have h0 : (strE ((partsB 32 s).getD 0 .unk)).length ≤ s.length := ps _ (by rw [getD_eq (show 0 < (partsB 32 s).length by omega)]; exact List.getElem_mem _)
      have g1 : (cnt (((partsB 32 s).drop 1).length : Int) 0 ((partsB 32 s).drop 1).length && (Nat.beq (260, 1, 900, (42 : TypeId)).2.2.2 42 && (decide (((partsB 32 s).drop 1).length ≤ 10000 ∧ (([] : List AV).length : Int) ≤ 0) && ((partsB 32 s).drop 1).all fun t => decide ((strE t).length ≤ 100000)))) = true :=
        and_t (cnt_zero (decide_eq_true (by omega))) (and_t rfl (and_t (decide_eq_true ⟨hl, Int.le_refl _⟩) (List.all_eq_true.2 fun t ht => decide_eq_true (by have := ps t (List.mem_of_mem_drop ht); omega))))
      rw [hx, g1, decide_eq_false h4, show decide (s.length ≤ 100000) = true from decide_eq_true (by omega), show inb 0 (partsB 32 s).length = true from inb_true (by omega) (by omega), show small (strE ((partsB 32 s).getD 0 .unk)).length = true from decide_eq_true (by omega), show slb 1 ((partsB 32 s).length : Int) (partsB 32 s).length = true from slb_true (by omega) (by omega) (by omega)]
      show (bif !nmS (strE ((partsB 32 s).getD 0 .unk)) then _ else bif (badL ((partsB 32 s).drop 1) 0).isSome then _ else bif decide ((([] ++ List.map rdE ((partsB 32 s).drop 1)).length : Int) > 60) then _ else _) = (bif !nmS (strE ((partsB 32 s).getD 0 .unk)) then _ else bif (badL ((partsB 32 s).drop 1) 0).isSome then _ else bif decide (((partsB 32 s).drop 1).length > 60) then _ else _)
      rw [List.nil_append, List.length_map, show decide ((((partsB 32 s).drop 1).length : Int) > 60) = decide (((partsB 32 s).drop 1).length > 60) from decide_eq_decide.2 (by omega)]
      rfl
  · cases h
end Go.Proofs.YtegeegibnckkkaaDoor

namespace Go.Proofs.YtegeegibnckkkaaDoor
open Go.Ev

noncomputable def b11 : Code := ((Tryd.f11.body.map loopsOf).getD []).headD .skip
def difR (x y : AV) : Bool := !(rR x == rR y && (rK x == rK y && (rS x == rS y && true)))
def difI (es fs : List AV) (i : Nat) : Bool := difR (es.getD i .unk) (fs.getD i .unk)
def L11 : List AV → List (Option Row) → Tr LOut
  | [.ptr 0 0, .ptr 1 0, .bool false, .int .i64 i], [some (.box false [.str d, .slv (.agg [.int .i64, .int .i64, .str]) es]), some (.box false [.str e, .slv (.agg [.int .i64, .int .i64, .str]) fs])] =>
    .gd (cnt es.length i es.length && Nat.beq fs.length es.length) (sT (difI es fs) es.length
      (fun q => .leaf (.ret, [.ptr 0 0, .ptr 1 0, .bool false, .int .i64 (q : Nat)], [some (.box false [.str d, .slv sR es]), some (.box false [.str e, .slv sR fs])]))
      (.leaf (.exit 0, [.ptr 0 0, .ptr 1 0, .bool false, .int .i64 es.length], [some (.box false [.str d, .slv sR es]), some (.box false [.str e, .slv sR fs])])) i.toNat)
  | _, _ => .no
def l11 : Ev.Loop := ⟨{ len := 38, slots := [2, 3, 4, 5], rows := [0, 1] }, ofL L11⟩
def μ11 (vs : List AV) (rs : List (Option Row)) : Nat := match vs, rs with
  | [_, _, _, .int _ i], [some (.box _ [_, .slv _ es]), _] => ((es.length : Int) - i).toNat
  | _, _ => 0
theorem loop11 : LoopOK Tryd.prog G0 [(4, l11)] b11 l11 := by
  refine loopT g0.natOK rfl (KOK.nil (by kernel_rfl)) μ11 (fun ρ vs rs k r h => ?_)
  unfold L11 at h
  split at h
  · rename_i i d es e fs
    obtain ⟨hc, hk⟩ := gd_some h
    simp only [Bool.and_eq_true] at hc
    obtain ⟨hc, hN⟩ := hc
    have hN' : fs.length = es.length := Nat.eq_of_beq_eq_true hN
    obtain ⟨_, hs, j, rfl, hj⟩ := cnt_spec hc
    rw [Int.toNat_natCast] at hk
    refine Eq.trans (b := bif decide ((↑j : Int) < (↑es.length : Int)) then bif inb (↑j : Int) es.length then bif inb (↑j : Int) fs.length then bif !((rR (es.getD j AV.unk)) == (rR (fs.getD j AV.unk)) && ((rK (es.getD j AV.unk)) == (rK (fs.getD j AV.unk)) && ((rS (es.getD j AV.unk)) == (rS (fs.getD j AV.unk)) && true))) then k Ex.ret [AV.ptr (0 : Nat) (0 : Nat), AV.ptr (1 : Nat) (0 : Nat), AV.bool false, AV.int IntKind.i64 (↑j : Int)] [some (Row.box false [AV.str d, AV.slv (Sh.agg [Sh.int IntKind.i64, Sh.int IntKind.i64, Sh.str]) es]), some (Row.box false [AV.str e, AV.slv (Sh.agg [Sh.int IntKind.i64, Sh.int IntKind.i64, Sh.str]) fs])] else bif decide (((↑es.length : Int) - IntKind.i64.wrap ((↑j : Int) + (1 : Int))).toNat < ((↑es.length : Int) - (↑j : Int)).toNat) then bif cnt (↑es.length : Int) (IntKind.i64.wrap ((↑j : Int) + (1 : Int))) es.length && fs.length.beq es.length then bif (findN (difI es fs) es.length (IntKind.i64.wrap ((↑j : Int) + (1 : Int))).toNat).isSome then k Ex.ret [AV.ptr (0 : Nat) (0 : Nat), AV.ptr (1 : Nat) (0 : Nat), AV.bool false, AV.int IntKind.i64 (↑((findN (difI es fs) es.length (IntKind.i64.wrap ((↑j : Int) + (1 : Int))).toNat).getD (0 : Nat)) : Int)] [some (Row.box false [AV.str d, AV.slv (Sh.agg [Sh.int IntKind.i64, Sh.int IntKind.i64, Sh.str]) es]), some (Row.box false [AV.str e, AV.slv (Sh.agg [Sh.int IntKind.i64, Sh.int IntKind.i64, Sh.str]) fs])] else k (Ex.exit (0 : Nat)) [AV.ptr (0 : Nat) (0 : Nat), AV.ptr (1 : Nat) (0 : Nat), AV.bool false, AV.int IntKind.i64 (↑es.length : Int)] [some (Row.box false [AV.str d, AV.slv (Sh.agg [Sh.int IntKind.i64, Sh.int IntKind.i64, Sh.str]) es]), some (Row.box false [AV.str e, AV.slv (Sh.agg [Sh.int IntKind.i64, Sh.int IntKind.i64, Sh.str]) fs])] else none else none else none else none else k (Ex.exit (0 : Nat)) [AV.ptr (0 : Nat) (0 : Nat), AV.ptr (1 : Nat) (0 : Nat), AV.bool false, AV.int IntKind.i64 (↑j : Int)] [some (Row.box false [AV.str d, AV.slv (Sh.agg [Sh.int IntKind.i64, Sh.int IntKind.i64, Sh.str]) es]), some (Row.box false [AV.str e, AV.slv (Sh.agg [Sh.int IntKind.i64, Sh.int IntKind.i64, Sh.str]) fs])]) (by kernel_rfl) ?_
    rw [← hk]
    by_cases hlt : j < es.length
    · obtain ⟨e1, e2, e3, e4, e5⟩ := cnt_facts hlt hs
      have e6 : inb (j : Int) fs.length = true := inb_true (by omega) (by omega)
      have e7 : difI es fs j = (!(rR (es.getD j .unk) == rR (fs.getD j .unk) && (rK (es.getD j .unk) == rK (fs.getD j .unk) && (rS (es.getD j .unk) == rS (fs.getD j .unk) && true)))) := rfl
      rw [sT_step _ _ _ _ _ hlt, e7]
      simp only [e1, e2, e3, e4, e5, e6, hN, cond_true, Int.toNat_natCast, Bool.and_self]
      generalize (!(rR (es.getD j .unk) == rR (fs.getD j .unk) && (rK (es.getD j .unk) == rK (fs.getD j .unk) && (rS (es.getD j .unk) == rS (fs.getD j .unk) && true)))) = a
      cases a <;> rfl
    · obtain rfl : j = es.length := by omega
      rw [decide_eq_false (by omega), sT_end]
      rfl
  · cases h
def samP (d e : List UInt8) (es fs : List AV) : Bool := (d == e) && (Nat.beq fs.length es.length && !(findN (difI es fs) es.length 0).isSome)
def F11 : List AV → Tr AV
  | [.agg [.str d, .slv (.agg [.int .i64, .int .i64, .str]) es], .agg [.str e, .slv (.agg [.int .i64, .int .i64, .str]) fs]] => .gd (small es.length) (.leaf (.bool (samP d e es fs)))
  | _ => .no
theorem ok11 : SumOK Tryd.prog 11 (ofT F11) ∧ SNat (ofT F11) := by
  refine fn1 (K := [(4, l11)]) (b := b11) (l := l11) g0 Tryd.func11 (by kernel_rfl) (by kernel_rfl) loop11 fun ρ avs k r h => ?_
  unfold F11 at h
  split at h
  · rename_i d es e fs
    obtain ⟨hc, hk⟩ := gd_some h
    refine Eq.trans (b := bif !d == e then k (AV.bool false) else bif (↑es.length : Int) != (↑fs.length : Int) then k (AV.bool false) else bif cnt (↑es.length : Int) (0 : Int) es.length && fs.length.beq es.length then bif (findN (difI es fs) es.length (0 : Nat)).isSome then k (AV.bool false) else k (AV.bool true) else none) (by kernel_rfl) ?_
    rw [← hk, cnt_zero hc]
    show _ = k (.bool (samP d e es fs))
    unfold samP
    cases hd : d == e
    · rfl
    · by_cases hl : fs.length = es.length
      · rw [hl, Nat.beq_refl, show ((es.length : Int) != (es.length : Int)) = false from bne_self_eq_false _]
        show (bif (findN (difI es fs) es.length 0).isSome then _ else _) = _
        cases (findN (difI es fs) es.length 0).isSome <;> rfl
      · rw [show ((es.length : Int) != (fs.length : Int)) = true from bne_iff_ne.2 (by omega), show Nat.beq fs.length es.length = false from (Bool.eq_false_iff.2 fun hb => hl (Nat.eq_of_beq_eq_true hb))]
        rfl
  · cases h
end Go.Proofs.YtegeegibnckkkaaDoor
