/-
  The classifier: Score.
-/
import Derived.Test.YtpgaobdgohlegaaClV
import Derived.Test.YtpgaobdgohlegaaClF
namespace Go.Proofs.Ytpgaobdgohlegaa
open Go.Ev

noncomputable def GS8 : Env := { pure := (20, ofT F20) :: (22, ofT F22) :: G1.pure, opens := [(24, ofX FS24)] }
theorem gs8 : GOK Try.prog GS8 := GOK.alsoX (GOK.also (GOK.also g1 ok22) ok20) okS24
theorem loopS8 : LoopOK Try.prog GS8 [(6, l8), (19, m8)] b8 l8 := by
  refine loopT gs8.natOK rfl (KOK.nil (by kernel_rfl)) μ8 (fun ρ vs rs k r h => ?_)
  unfold L8 at h
  split at h
  · rename_i ts n i' G J es c d out
    obtain ⟨hc, hk⟩ := gd_some h
    simp only [Bool.and_eq_true] at hc
    obtain ⟨hc, hnz⟩ := hc
    obtain ⟨rfl, c1, c2, c3, c4, c5⟩ := of_decide_eq_true hc
    obtain ⟨i, rfl⟩ : ∃ i : Nat, i' = i := ⟨i'.toNat, by omega⟩
    rw [Int.toNat_natCast] at hk
    refine Eq.trans (b := bif decide ((↑i : Int) < (↑ts.length : Int)) then bif inb (↑i : Int) ts.length then bif decide (es.length ≤ (1000000 : Nat)) then bif isK (xOf (ts.getD i AV.unk)) es then bif inb (↑(atK (xOf (ts.getD i AV.unk)) es) : Int) es.length then bif inb (↑(atK (xOf (ts.getD i AV.unk)) es) : Int) es.length then bif decide (IntKind.i64.wrap (IntKind.i64.wrap ((jOf (es.getD (↑(atK (xOf (ts.getD i AV.unk)) es) : Int).toNat AV.unk)) * IntKind.i64.wrap (G + (1 : Int))) + IntKind.i64.wrap ((gOf (es.getD (↑(atK (xOf (ts.getD i AV.unk)) es) : Int).toNat AV.unk)) * IntKind.i64.wrap (J + (1 : Int)))) = (0 : Int)) then none else bif roomB (out.length + [AV.int IntKind.i64 (IntKind.i64.wrap ((IntKind.i64.wrap ((1000 : Int) * IntKind.i64.wrap ((jOf (es.getD (↑(atK (xOf (ts.getD i AV.unk)) es) : Int).toNat AV.unk)) * IntKind.i64.wrap (G + (1 : Int))))).tdiv (IntKind.i64.wrap (IntKind.i64.wrap ((jOf (es.getD (↑(atK (xOf (ts.getD i AV.unk)) es) : Int).toNat AV.unk)) * IntKind.i64.wrap (G + (1 : Int))) + IntKind.i64.wrap ((gOf (es.getD (↑(atK (xOf (ts.getD i AV.unk)) es) : Int).toNat AV.unk)) * IntKind.i64.wrap (J + (1 : Int)))))))].length) (Try.prog.bytesOf (3 : Nat)) then bif decide (((↑ts.length : Int) - IntKind.i64.wrap ((↑i : Int) + (1 : Int))).toNat < ((↑ts.length : Int) - (↑i : Int)).toNat) then bif decide ((↑ts.length : Int) = (↑ts.length : Int) ∧ (0 : Int) ≤ IntKind.i64.wrap ((↑i : Int) + (1 : Int)) ∧ IntKind.i64.wrap ((↑i : Int) + (1 : Int)) ≤ (↑ts.length : Int) ∧ (↑ts.length : Int) ≤ (1000 : Int) ∧ es.length ≤ (2000 : Nat) ∧ (↑(out ++ [AV.int IntKind.i64 (IntKind.i64.wrap ((IntKind.i64.wrap ((1000 : Int) * IntKind.i64.wrap ((jOf (es.getD (↑(atK (xOf (ts.getD i AV.unk)) es) : Int).toNat AV.unk)) * IntKind.i64.wrap (G + (1 : Int))))).tdiv (IntKind.i64.wrap (IntKind.i64.wrap ((jOf (es.getD (↑(atK (xOf (ts.getD i AV.unk)) es) : Int).toNat AV.unk)) * IntKind.i64.wrap (G + (1 : Int))) + IntKind.i64.wrap ((gOf (es.getD (↑(atK (xOf (ts.getD i AV.unk)) es) : Int).toNat AV.unk)) * IntKind.i64.wrap (J + (1 : Int)))))))]).length : Int) ≤ IntKind.i64.wrap ((↑i : Int) + (1 : Int))) && nzD G J es then k (Ex.exit (0 : Nat)) [AV.ptr (0 : Nat) (0 : Nat), AV.ptr (2 : Nat) (0 : Nat), AV.own (900 : Nat), AV.slv Sh.str ts, AV.int IntKind.i64 (↑ts.length : Int), AV.int IntKind.i64 (↑ts.length : Int)] [some (Row.box false [AV.int IntKind.i64 G, AV.int IntKind.i64 J, AV.slv (Sh.agg [Sh.str, Sh.int IntKind.i64, Sh.int IntKind.i64]) es]), some (Row.box false [AV.int IntKind.i64 c, AV.int IntKind.i64 d]), some (Row.arr false (Sh.int IntKind.i64) (3 : Nat) (out ++ [AV.int IntKind.i64 (IntKind.i64.wrap ((IntKind.i64.wrap ((1000 : Int) * IntKind.i64.wrap ((jOf (es.getD (↑(atK (xOf (ts.getD i AV.unk)) es) : Int).toNat AV.unk)) * IntKind.i64.wrap (G + (1 : Int))))).tdiv (IntKind.i64.wrap (IntKind.i64.wrap ((jOf (es.getD (↑(atK (xOf (ts.getD i AV.unk)) es) : Int).toNat AV.unk)) * IntKind.i64.wrap (G + (1 : Int))) + IntKind.i64.wrap ((gOf (es.getD (↑(atK (xOf (ts.getD i AV.unk)) es) : Int).toNat AV.unk)) * IntKind.i64.wrap (J + (1 : Int)))))))] ++ ratL G J es (List.drop (IntKind.i64.wrap ((↑i : Int) + (1 : Int))).toNat ts)) none)] else none else none else none else none else none else bif decide (((↑ts.length : Int) - IntKind.i64.wrap ((↑i : Int) + (1 : Int))).toNat < ((↑ts.length : Int) - (↑i : Int)).toNat) then bif decide ((↑ts.length : Int) = (↑ts.length : Int) ∧ (0 : Int) ≤ IntKind.i64.wrap ((↑i : Int) + (1 : Int)) ∧ IntKind.i64.wrap ((↑i : Int) + (1 : Int)) ≤ (↑ts.length : Int) ∧ (↑ts.length : Int) ≤ (1000 : Int) ∧ es.length ≤ (2000 : Nat) ∧ (↑out.length : Int) ≤ IntKind.i64.wrap ((↑i : Int) + (1 : Int))) && nzD G J es then k (Ex.exit (0 : Nat)) [AV.ptr (0 : Nat) (0 : Nat), AV.ptr (2 : Nat) (0 : Nat), AV.own (900 : Nat), AV.slv Sh.str ts, AV.int IntKind.i64 (↑ts.length : Int), AV.int IntKind.i64 (↑ts.length : Int)] [some (Row.box false [AV.int IntKind.i64 G, AV.int IntKind.i64 J, AV.slv (Sh.agg [Sh.str, Sh.int IntKind.i64, Sh.int IntKind.i64]) es]), some (Row.box false [AV.int IntKind.i64 c, AV.int IntKind.i64 d]), some (Row.arr false (Sh.int IntKind.i64) (3 : Nat) (out ++ ratL G J es (List.drop (IntKind.i64.wrap ((↑i : Int) + (1 : Int))).toNat ts)) none)] else none else none else none else none else k (Ex.exit (0 : Nat)) [AV.ptr (0 : Nat) (0 : Nat), AV.ptr (2 : Nat) (0 : Nat), AV.own (900 : Nat), AV.slv Sh.str ts, AV.int IntKind.i64 (↑ts.length : Int), AV.int IntKind.i64 (↑i : Int)] [some (Row.box false [AV.int IntKind.i64 G, AV.int IntKind.i64 J, AV.slv (Sh.agg [Sh.str, Sh.int IntKind.i64, Sh.int IntKind.i64]) es]), some (Row.box false [AV.int IntKind.i64 c, AV.int IntKind.i64 d]), some (Row.arr false (Sh.int IntKind.i64) (3 : Nat) out none)]) (by kernel_rfl) ?_
    rw [← hk]
    by_cases hlt : i < ts.length
    · have w1 : IntKind.i64.wrap ((i : Int) + 1) = ((i + 1 : Nat) : Int) := by rw [wrap_mid _ (by omega) (by omega)]; omega
      rw [w1, drop_getD hlt, ratL_cons]
      refine Eq.trans (cond_t (decide_eq_true (by omega))) (Eq.trans (cond_t (inb_true (by omega) (by omega))) (Eq.trans (cond_t (decide_eq_true (by omega))) ?_))
      cases hk2 : isK (xOf (ts.getD i .unk)) es
      · refine Eq.trans (cond_f rfl) (Eq.trans (cond_t (decide_eq_true (by omega))) (Eq.trans (cond_t (and_t (decide_eq_true ⟨rfl, by omega, by omega, by omega, by omega, by omega⟩) hnz)) ?_))
        rw [Int.toNat_natCast]
        rfl
      · have hat : atK (xOf (ts.getD i .unk)) es < es.length := by
          unfold isK at hk2
          simp only [Bool.and_eq_true, decide_eq_true_eq] at hk2
          exact hk2.1
        have hz : ¬ (ratD G J (es.getD (atK (xOf (ts.getD i .unk)) es) .unk) = 0) := by
          have := List.all_eq_true.1 hnz _ (by rw [getD_eq hat]; exact List.getElem_mem hat : es.getD (atK (xOf (ts.getD i .unk)) es) .unk ∈ es)
          simpa using this
        refine Eq.trans (cond_t rfl) (Eq.trans (cond_t (inb_true (by omega) (by omega))) (Eq.trans (cond_t (inb_true (by omega) (by omega))) (Eq.trans (cond_f (decide_eq_false hz)) (Eq.trans (cond_t (roomB_small (by simp only [List.length_cons, List.length_nil]; omega) by3)) (Eq.trans (cond_t (decide_eq_true (by omega))) (Eq.trans (cond_t (and_t (decide_eq_true ⟨rfl, by omega, by omega, by omega, by omega, by simp only [List.length_append, List.length_cons, List.length_nil]; omega⟩) hnz)) ?_))))))
        rw [Int.toNat_natCast, List.append_assoc]
        rfl
    · obtain rfl : i = ts.length := by omega
      rw [decide_eq_false (by omega), List.drop_length]
      show _ = k (.exit 0) [.ptr 0 0, .ptr 2 0, .own 900, .slv .str ts, .int .i64 ts.length, .int .i64 ts.length] [some (.box false [.int .i64 G, .int .i64 J, .slv sK es]), some (.box false [.int .i64 c, .int .i64 d]), some (.arr false (.int .i64) 3 (out ++ []) none)]
      rw [List.append_nil]
      rfl
  · cases h
theorem loopS8b : LoopOK Try.prog GS8 [(6, l8), (19, m8)] c8 m8 := by
  refine loopT gs8.natOK rfl (KOK.nil (by kernel_rfl)) μ8 (fun ρ vs rs k r h => ?_)
  unfold M8 at h
  split at h
  · rename_i m s m' n i' c d es sp
    obtain ⟨hc, hk⟩ := gd_some h
    simp only [Bool.and_eq_true] at hc
    obtain ⟨hc, hall⟩ := hc
    obtain ⟨rfl, c1, c2, c3, c4, c5, c6⟩ := of_decide_eq_true hc
    obtain ⟨i, rfl⟩ : ∃ i : Nat, i' = i := ⟨i'.toNat, by omega⟩
    rw [Int.toNat_natCast] at hk
    refine Eq.trans (b := bif decide ((↑i : Int) < (↑m' : Int)) then bif inb (↑i : Int) m' && decide ((0 : Nat) + m' ≤ es.length) then bif decide ((0 : Nat) + i < es.length) then bif decide (((↑m' : Int) - IntKind.i64.wrap ((↑i : Int) + (1 : Int))).toNat < ((↑m' : Int) - (↑i : Int)).toNat) then bif decide ((↑m' : Int) = (↑m' : Int) ∧ (0 : Int) ≤ IntKind.i64.wrap ((↑i : Int) + (1 : Int)) ∧ IntKind.i64.wrap ((↑i : Int) + (1 : Int)) ≤ (↑m' : Int) ∧ m' ≤ es.length ∧ m' ≤ (1000 : Nat) ∧ (0 : Int) ≤ IntKind.i64.wrap (s + (iv (es.getD ((0 : Nat) + i) AV.unk))) ∧ IntKind.i64.wrap (s + (iv (es.getD ((0 : Nat) + i) AV.unk))) ≤ (1000 : Int) * IntKind.i64.wrap ((↑i : Int) + (1 : Int))) && es.all fun e => inR (iv e) (0 : Int) (1000 : Int) then k (Ex.exit (2 : Nat)) [AV.ptr (2 : Nat) (0 : Nat), AV.sub (900 : Nat) (0 : Nat) m, AV.int IntKind.i64 (IntKind.i64.wrap (s + (iv (es.getD ((0 : Nat) + i) AV.unk))) + sumL (List.drop (IntKind.i64.wrap ((↑i : Int) + (1 : Int))).toNat (List.take m' es))), AV.sub (900 : Nat) (0 : Nat) m', AV.int IntKind.i64 (↑m' : Int), AV.int IntKind.i64 (↑m' : Int)] [some (Row.box false [AV.int IntKind.i64 c, AV.int IntKind.i64 d]), some (Row.arr false (Sh.int IntKind.i64) (3 : Nat) es sp)] else none else none else none else none else k (Ex.exit (2 : Nat)) [AV.ptr (2 : Nat) (0 : Nat), AV.sub (900 : Nat) (0 : Nat) m, AV.int IntKind.i64 s, AV.sub (900 : Nat) (0 : Nat) m', AV.int IntKind.i64 (↑m' : Int), AV.int IntKind.i64 (↑i : Int)] [some (Row.box false [AV.int IntKind.i64 c, AV.int IntKind.i64 d]), some (Row.arr false (Sh.int IntKind.i64) (3 : Nat) es sp)]) (by kernel_rfl) ?_
    rw [← hk]
    by_cases hlt : i < m'
    · have w1 : IntKind.i64.wrap ((i : Int) + 1) = ((i + 1 : Nat) : Int) := by rw [wrap_mid _ (by omega) (by omega)]; omega
      have hie : i < es.length := by omega
      have hm : es.getD i .unk ∈ es := by rw [getD_eq hie]; exact List.getElem_mem hie
      obtain ⟨v0, v1⟩ := inR_spec (List.all_eq_true.1 hall _ hm)
      have w2 : IntKind.i64.wrap (s + iv (es.getD i .unk)) = s + iv (es.getD i .unk) := wrap_mid _ (by omega) (by omega)
      have hd : (es.take m').drop i = es.getD i .unk :: (es.take m').drop (i + 1) := by
        rw [List.drop_eq_getElem_cons (by rw [List.length_take]; omega), List.getElem_take, getD_eq hie]
      rw [Nat.zero_add, Nat.zero_add, w1, w2, hd]
      refine Eq.trans (cond_t (decide_eq_true (by omega))) (Eq.trans (cond_t (and_t (inb_true (by omega) (by omega)) (decide_eq_true (by omega)))) (Eq.trans (cond_t (decide_eq_true (by omega))) (Eq.trans (cond_t (decide_eq_true (by omega))) (Eq.trans (cond_t (and_t (decide_eq_true ⟨rfl, by omega, by omega, by omega, by omega, by omega, by omega⟩) hall)) ?_))))
      rw [Int.toNat_natCast]
      show _ = k (.exit 2) [.ptr 2 0, .sub 900 0 m, .int .i64 (s + (iv (es.getD i .unk) + sumL ((es.take m').drop (i + 1)))), .sub 900 0 m', .int .i64 m', .int .i64 m'] [some (.box false [.int .i64 c, .int .i64 d]), some (.arr false (.int .i64) 3 es sp)]
      rw [← Int.add_assoc]
    · obtain rfl : i = m' := by omega
      have hdr : (es.take i).drop i = [] := List.drop_of_length_le (by rw [List.length_take]; omega)
      rw [decide_eq_false (by omega), hdr]
      show _ = k (.exit 2) [.ptr 2 0, .sub 900 0 m, .int .i64 (s + 0), .sub 900 0 i, .int .i64 i, .int .i64 i] [some (.box false [.int .i64 c, .int .i64 d]), some (.arr false (.int .i64) 3 es sp)]
      rw [Int.add_zero]
      rfl
  · cases h
theorem ratL_ok {G J : Int} {es : List AV} (h : Wd G J es) : ∀ ts, okL (ratL G J es ts) = true ∧ (ratL G J es ts).length ≤ ts.length
  | [] => ⟨rfl, Nat.le_refl _⟩
  | t :: r => by
    obtain ⟨i1, i2⟩ := ratL_ok h r
    have hall := ratL_all h (t :: r)
    rw [ratL_cons] at hall ⊢
    cases hk : isK (xOf t) es
    · exact ⟨i1, by simp only [cond_false, List.length_cons]; omega⟩
    · rw [hk, cond_true, List.all_cons] at hall
      simp only [Bool.and_eq_true] at hall
      rw [cond_true]
      refine ⟨?_, by simp only [List.length_cons]; omega⟩
      show (okE _ && okL _) = true
      rw [i1, Bool.and_true]
      unfold okE
      rw [hall.1]
      rfl
theorem sumL_bd : ∀ {l : List AV}, okL l = true → 0 ≤ sumL l ∧ sumL l ≤ 1000 * (l.length : Int)
  | [], _ => ⟨Int.le_refl _, Int.le_refl _⟩
  | e :: r, h => by
    have h' : (okE e && okL r) = true := h
    simp only [Bool.and_eq_true] at h'
    obtain ⟨i1, i2⟩ := sumL_bd h'.2
    obtain ⟨e1, e2⟩ := inR_spec (okE_r h'.1)
    show 0 ≤ iv e + sumL r ∧ iv e + sumL r ≤ 1000 * ((r.length + 1 : Nat) : Int)
    omega
theorem okL_take {l : List AV} (h : okL l = true) (n : Nat) : okL (l.take n) = true := List.all_eq_true.2 fun x hx => List.all_eq_true.1 h x (List.mem_of_mem_take hx)
theorem okL_sort {l : List AV} (h : okL l = true) : okL (sortS l) = true := okL_same (sortS_same l) h
theorem avg_small {l : List AV} (h : okL l = true) (hn : l ≠ []) : 0 ≤ (sumL ((sortS l).take (min l.length 15))).tdiv (min l.length 15 : Nat) ∧ (sumL ((sortS l).take (min l.length 15))).tdiv (min l.length 15 : Nat) ≤ 15000 := by
  obtain ⟨b0, b1⟩ := sumL_bd (okL_take (okL_sort h) (min l.length 15))
  rw [List.length_take, sortS_len] at b1
  have hp : 0 < l.length := List.length_pos_iff.2 hn
  rw [Int.tdiv_eq_ediv_of_nonneg b0]
  generalize sumL ((sortS l).take (min l.length 15)) = s at b0 b1
  refine ⟨Int.ediv_nonneg b0 (by omega), ?_⟩
  have : s / ((min l.length 15 : Nat) : Int) ≤ s := Int.ediv_le_self _ b0
  omega
def avgL (l : List AV) : Int := match l with
  | [] => 500
  | e :: r => (sumL ((sortS (e :: r)).take (min (e :: r).length 15))).tdiv (min (e :: r).length 15 : Nat)
def scoreS (G J : Int) (es ts : List AV) : Int := bif (commF G J es ts).1 != 0 then 0 else avgL (ratL G J es ts)
def FS8 : List AV → Tr AV
  | [.agg [.int .i64 G, .int .i64 J, .slv (.agg [.str, .int .i64, .int .i64]) es], .slv .str ts] => .gd (small es.length && small ts.length) (.leaf (.tup [.int .i64 (scoreS G J es ts), fault (commF G J es ts)]))
  | _ => .no
theorem okS8 : SumOK Try.prog 8 (ofT FS8) ∧ SNat (ofT FS8) := by
  refine fnT (K := [(6, l8), (19, m8)]) (bs := [b8, c8]) gs8 Try.func8 (by kernel_rfl) (fun b hb => ?_) fun ρ avs k r h => ?_
  · rcases List.mem_cons.1 hb with rfl | hb
    · exact ⟨l8, by kernel_rfl, loopS8⟩
    · rcases List.mem_cons.1 hb with rfl | hb
      · exact ⟨m8, by kernel_rfl, loopS8b⟩
      · cases hb
  unfold FS8 at h
  split at h
  · rename_i G J es ts
    obtain ⟨hc, hk⟩ := gd_some h
    simp only [Bool.and_eq_true] at hc
    obtain ⟨hs, ht⟩ := hc
    refine Eq.trans (b := bif small es.length && small ts.length then bif (commF G J es ts).fst != (0 : Int) then k (AV.tup [AV.int IntKind.i64 (0 : Int), AV.agg [AV.int IntKind.i64 (commF G J es ts).fst, AV.int IntKind.i64 (commF G J es ts).snd]]) else bif decide ((↑ts.length : Int) = (↑ts.length : Int) ∧ (0 : Int) ≤ (0 : Int) ∧ (0 : Int) ≤ (↑ts.length : Int) ∧ (↑ts.length : Int) ≤ (1000 : Int) ∧ es.length ≤ (2000 : Nat) ∧ (↑([] : List AV).length : Int) ≤ (0 : Int)) && nzD G J es then bif (↑([] ++ ratL G J es (List.drop (0 : Nat) ts)).length : Int) == (0 : Int) then k (AV.tup [AV.int IntKind.i64 (500 : Int), AV.agg [AV.int IntKind.i64 (0 : Int), AV.int IntKind.i64 (0 : Int)]]) else bif ((fun x => PID + x) (0 : Nat)).beq PID && (decide (([] ++ ratL G J es (List.drop (0 : Nat) ts)).length ≤ (1000 : Nat)) && okL ([] ++ ratL G J es (List.drop (0 : Nat) ts))) then bif slb (0 : Int) (if (15 : Int) < (↑(sortS ([] ++ ratL G J es (List.drop (0 : Nat) ts))).length : Int) then (15 : Int) else (↑(sortS ([] ++ ratL G J es (List.drop (0 : Nat) ts))).length : Int)) (sortS ([] ++ ratL G J es (List.drop (0 : Nat) ts))).length then bif decide (Int.toNat (0 : Int) + ((if (15 : Int) < (↑(sortS ([] ++ ratL G J es (List.drop (0 : Nat) ts))).length : Int) then (15 : Int) else (↑(sortS ([] ++ ratL G J es (List.drop (0 : Nat) ts))).length : Int)).toNat - Int.toNat (0 : Int)) ≤ (sortS ([] ++ ratL G J es (List.drop (0 : Nat) ts))).length) then bif decide ((↑(List.take ((if (15 : Int) < (↑(sortS ([] ++ ratL G J es (List.drop (0 : Nat) ts))).length : Int) then (15 : Int) else (↑(sortS ([] ++ ratL G J es (List.drop (0 : Nat) ts))).length : Int)).toNat - Int.toNat (0 : Int)) (List.drop (0 : Nat) (sortS ([] ++ ratL G J es (List.drop (0 : Nat) ts))))).length : Int) = (↑((if (15 : Int) < (↑(sortS ([] ++ ratL G J es (List.drop (0 : Nat) ts))).length : Int) then (15 : Int) else (↑(sortS ([] ++ ratL G J es (List.drop (0 : Nat) ts))).length : Int)).toNat - Int.toNat (0 : Int)) : Int) ∧ (0 : Int) ≤ (0 : Int) ∧ (0 : Int) ≤ (↑(List.take ((if (15 : Int) < (↑(sortS ([] ++ ratL G J es (List.drop (0 : Nat) ts))).length : Int) then (15 : Int) else (↑(sortS ([] ++ ratL G J es (List.drop (0 : Nat) ts))).length : Int)).toNat - Int.toNat (0 : Int)) (List.drop (0 : Nat) (sortS ([] ++ ratL G J es (List.drop (0 : Nat) ts))))).length : Int) ∧ (if (15 : Int) < (↑(sortS ([] ++ ratL G J es (List.drop (0 : Nat) ts))).length : Int) then (15 : Int) else (↑(sortS ([] ++ ratL G J es (List.drop (0 : Nat) ts))).length : Int)).toNat - Int.toNat (0 : Int) ≤ (sortS ([] ++ ratL G J es (List.drop (0 : Nat) ts))).length ∧ (if (15 : Int) < (↑(sortS ([] ++ ratL G J es (List.drop (0 : Nat) ts))).length : Int) then (15 : Int) else (↑(sortS ([] ++ ratL G J es (List.drop (0 : Nat) ts))).length : Int)).toNat - Int.toNat (0 : Int) ≤ (1000 : Nat) ∧ (0 : Int) ≤ (0 : Int) ∧ (0 : Int) ≤ (1000 : Int) * (0 : Int)) && (sortS ([] ++ ratL G J es (List.drop (0 : Nat) ts))).all fun e => inR (iv e) (0 : Int) (1000 : Int) then bif decide ((0 : Nat) + ((if (15 : Int) < (↑(sortS ([] ++ ratL G J es (List.drop (0 : Nat) ts))).length : Int) then (15 : Int) else (↑(sortS ([] ++ ratL G J es (List.drop (0 : Nat) ts))).length : Int)).toNat - Int.toNat (0 : Int)) ≤ (sortS ([] ++ ratL G J es (List.drop (0 : Nat) ts))).length) then bif decide ((↑(List.take ((if (15 : Int) < (↑(sortS ([] ++ ratL G J es (List.drop (0 : Nat) ts))).length : Int) then (15 : Int) else (↑(sortS ([] ++ ratL G J es (List.drop (0 : Nat) ts))).length : Int)).toNat - Int.toNat (0 : Int)) (List.drop (0 : Nat) (sortS ([] ++ ratL G J es (List.drop (0 : Nat) ts))))).length : Int) = (0 : Int)) then none else k (AV.tup [AV.int IntKind.i64 (IntKind.i64.wrap (((0 : Int) + sumL (List.drop (0 : Nat) (List.take ((if (15 : Int) < (↑(sortS ([] ++ ratL G J es (List.drop (0 : Nat) ts))).length : Int) then (15 : Int) else (↑(sortS ([] ++ ratL G J es (List.drop (0 : Nat) ts))).length : Int)).toNat - Int.toNat (0 : Int)) (sortS ([] ++ ratL G J es (List.drop (0 : Nat) ts)))))).tdiv (↑(List.take ((if (15 : Int) < (↑(sortS ([] ++ ratL G J es (List.drop (0 : Nat) ts))).length : Int) then (15 : Int) else (↑(sortS ([] ++ ratL G J es (List.drop (0 : Nat) ts))).length : Int)).toNat - Int.toNat (0 : Int)) (List.drop (0 : Nat) (sortS ([] ++ ratL G J es (List.drop (0 : Nat) ts))))).length : Int))), AV.agg [AV.int IntKind.i64 (0 : Int), AV.int IntKind.i64 (0 : Int)]]) else none else none else none else none else none else none else none) (by kernel_rfl) ?_
    rw [← hk, hs, ht]
    show _ = k (.tup [.int .i64 (scoreS G J es ts), fault (commF G J es ts)])
    unfold scoreS
    cases hv : (commF G J es ts).1 != 0
    · obtain ⟨hz, W, T⟩ := comm_ok hv
      have w1 := W.len
      have t1 := T.len
      obtain ⟨r1, r2⟩ := ratL_ok W ts
      have gd1 : (decide ((ts.length : Int) = (ts.length : Int) ∧ (0 : Int) ≤ 0 ∧ (0 : Int) ≤ (ts.length : Int) ∧ (ts.length : Int) ≤ 1000 ∧ es.length ≤ 2000 ∧ ((([] : List AV).length : Nat) : Int) ≤ 0) && nzD G J es) = true := and_t (decide_eq_true ⟨rfl, by omega, by omega, by omega, by omega, by simp⟩) (nzD_ok W)
      rw [hz, List.nil_append, List.drop_zero, gd1]
      generalize ratL G J es ts = l at r1 r2
      have hb : ((fun x => PID + x) 0).beq PID = true := Nat.beq_refl PID
      by_cases hn : l = []
      · subst hn; rfl
      · have hp : 0 < l.length := List.length_pos_iff.2 hn
        obtain ⟨a0, a1⟩ := avg_small r1 hn
        have hX : (if (15 : Int) < ((sortS l).length : Int) then (15 : Int) else ((sortS l).length : Int)) = ((min l.length 15 : Nat) : Int) := by
          rw [sortS_len]
          split <;> omega
        have hl0 : ((l.length : Int) == 0) = false := by
          have : (l.length : Int) ≠ 0 := by omega
          simpa using this
        have hlen : ((sortS l).take (min l.length 15)).length = min l.length 15 := by rw [List.length_take, sortS_len]; omega
        have hm : min l.length 15 - Int.toNat 0 = min l.length 15 := Nat.sub_zero _
        rw [hX, Int.toNat_natCast, hm, List.drop_zero, hlen, List.drop_zero, hl0, Int.zero_add, wrap_mid _ (by omega) (by omega)]
        have hs2 : slb (0 : Int) ((min l.length 15 : Nat) : Int) (sortS l).length = true := by
          unfold slb
          rw [sortS_len]
          exact and_t (decide_eq_true (Int.le_refl _)) (and_t (decide_eq_true (by omega)) (decide_eq_true (by omega)))
        have hall : (sortS l).all (fun e => inR (iv e) 0 1000) = true := List.all_eq_true.2 fun x hx => okE_r (List.all_eq_true.1 (okL_sort r1) x hx)
        have hsl := sortS_len l
        refine Eq.trans (cond_t rfl) (Eq.trans (cond_f rfl) (Eq.trans (cond_t rfl) (Eq.trans (cond_f rfl) (Eq.trans (cond_t (and_t hb (and_t (decide_eq_true (by omega)) r1))) (Eq.trans (cond_t hs2) (Eq.trans (cond_t (decide_eq_true (by show 0 + min l.length 15 ≤ _; omega))) (Eq.trans (cond_t (and_t (decide_eq_true ⟨rfl, by omega, by omega, by omega, by omega, by omega, by omega⟩) hall)) (Eq.trans (cond_t (decide_eq_true (by omega))) (Eq.trans (cond_f (decide_eq_false (by omega))) ?_)))))))))
        cases l with
        | nil => exact absurd rfl hn
        | cons e r => rfl
    · rfl
  · cases h
end Go.Proofs.Ytpgaobdgohlegaa
