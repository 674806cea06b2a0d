/-
  The classifier: Score, where at most one token counts.
-/
import Derived.Test.YtpgaobdgohlegaaClD
namespace Go.Proofs.Ytpgaobdgohlegaa
open Go.Ev

def iv (e : AV) : Int := (e.cells.headD .unk).toInt
def ratW (G J : Int) (e : AV) : Int := IntKind.i64.wrap ((IntKind.i64.wrap (1000 * IntKind.i64.wrap (jOf e * IntKind.i64.wrap (G + 1)))).tdiv (IntKind.i64.wrap (IntKind.i64.wrap (jOf e * IntKind.i64.wrap (G + 1)) + IntKind.i64.wrap (gOf e * IntKind.i64.wrap (J + 1)))))
def ratD (G J : Int) (e : AV) : Int := IntKind.i64.wrap (IntKind.i64.wrap (jOf e * IntKind.i64.wrap (G + 1)) + IntKind.i64.wrap (gOf e * IntKind.i64.wrap (J + 1)))
def ratL (G J : Int) (es : List AV) : List AV → List AV
  | [] => []
  | t :: r => bif isK (xOf t) es then .int .i64 (ratW G J (es.getD (atK (xOf t) es) .unk)) :: ratL G J es r else ratL G J es r
theorem ratL_cons (G J : Int) (es : List AV) (t : AV) (r : List AV) : ratL G J es (t :: r) = bif isK (xOf t) es then .int .i64 (ratW G J (es.getD (atK (xOf t) es) .unk)) :: ratL G J es r else ratL G J es r := rfl
noncomputable def G8 : Env := { pure := (20, ofT F20) :: (22, ofT F22) :: G1.pure, opens := [(24, ofX F24)] }
theorem g8 : GOK Try.prog G8 := GOK.alsoX (GOK.also (GOK.also g1 ok22) ok20) ok24
noncomputable def b8 : Code := ((Try.f8.body.map loopsOf).getD []).headD .skip
noncomputable def c8 : Code := ((Try.f8.body.map loopsOf).getD []).tail.headD .skip
def nzD (G J : Int) (es : List AV) : Bool := es.all fun e => !(ratD G J e == 0)
def L8 : List AV → List (Option Row) → Tr LOut
  | [.ptr 0 0, .ptr 2 0, .own 900, .slv .str ts, .int .i64 n, .int .i64 i], [some (.box false [.int .i64 G, .int .i64 J, .slv (.agg [.str, .int .i64, .int .i64]) es]), some (.box false [.int .i64 c, .int .i64 d]), some (.arr false (.int .i64) 3 out none)] =>
    .gd (decide (n = ts.length ∧ 0 ≤ i ∧ i ≤ n ∧ n ≤ 1000 ∧ es.length ≤ 2000 ∧ out.length ≤ i) && nzD G J es) (.leaf (.exit 0, [.ptr 0 0, .ptr 2 0, .own 900, .slv .str ts, .int .i64 n, .int .i64 ts.length], [some (.box false [.int .i64 G, .int .i64 J, .slv sK es]), some (.box false [.int .i64 c, .int .i64 d]), some (.arr false (.int .i64) 3 (out ++ ratL G J es (ts.drop i.toNat)) none)]))
  | _, _ => .no
def l8 : Ev.Loop := ⟨{ len := 93, slots := [2, 5, 7, 23, 24, 25], rows := [0, 2, 900], homes := [(7, 900, 3)] }, ofL L8⟩
def μ8 (vs : List AV) (_ : List (Option Row)) : Nat := match vs with
  | [_, _, _, _, .int _ n, .int _ i] => (n - i).toNat
  | _ => 0
def sumL : List AV → Int
  | [] => 0
  | e :: r => iv e + sumL r
def M8 : List AV → List (Option Row) → Tr LOut
  | [.ptr 2 0, .sub 900 0 m, .int .i64 s, .sub 900 0 m', .int .i64 n, .int .i64 i], [some (.box false [.int .i64 c, .int .i64 d]), some (.arr false (.int .i64) 3 es sp)] =>
    .gd (decide (n = m' ∧ 0 ≤ i ∧ i ≤ n ∧ m' ≤ es.length ∧ m' ≤ 1000 ∧ 0 ≤ s ∧ s ≤ 1000 * i) && es.all (fun e => inR (iv e) 0 1000)) (.leaf (.exit 2, [.ptr 2 0, .sub 900 0 m, .int .i64 (s + sumL ((es.take m').drop i.toNat)), .sub 900 0 m', .int .i64 n, .int .i64 m'], [some (.box false [.int .i64 c, .int .i64 d]), some (.arr false (.int .i64) 3 es sp)]))
  | _, _ => .no
def m8 : Ev.Loop := ⟨{ len := 93, slots := [5, 7, 14, 78, 79, 80], rows := [2, 900] }, ofL M8⟩
theorem by3 : Try.prog.bytesOf 3 ≤ 1000 := of_decide_eq_true (by kernel_rfl)
theorem loop8 : LoopOK Try.prog G8 [(6, l8), (19, m8)] b8 l8 := by
  refine loopT g8.natOK rfl (KOK.nil (by kernel_rfl)) μ8 (fun ρ vs rs k r h => ?_)
  unfold L8 at h
  split at h
  · rename_i ts n i' G J es c d out
    obtain ⟨hc, hk⟩ := gd_some h
    simp only [Bool.and_eq_true] at hc
    obtain ⟨hc, hnz⟩ := hc
    obtain ⟨rfl, c1, c2, c3, c4, c5⟩ := of_decide_eq_true hc
    obtain ⟨i, rfl⟩ : ∃ i : Nat, i' = i := ⟨i'.toNat, by omega⟩
    rw [Int.toNat_natCast] at hk
    refine Eq.trans (b := bif decide ((↑i : Int) < (↑ts.length : Int)) then bif inb (↑i : Int) ts.length then bif decide (es.length ≤ (1000000 : Nat)) then bif isK (xOf (ts.getD i AV.unk)) es then bif inb (↑(atK (xOf (ts.getD i AV.unk)) es) : Int) es.length then bif inb (↑(atK (xOf (ts.getD i AV.unk)) es) : Int) es.length then bif decide (IntKind.i64.wrap (IntKind.i64.wrap ((jOf (es.getD (↑(atK (xOf (ts.getD i AV.unk)) es) : Int).toNat AV.unk)) * IntKind.i64.wrap (G + (1 : Int))) + IntKind.i64.wrap ((gOf (es.getD (↑(atK (xOf (ts.getD i AV.unk)) es) : Int).toNat AV.unk)) * IntKind.i64.wrap (J + (1 : Int)))) = (0 : Int)) then none else bif roomB (out.length + [AV.int IntKind.i64 (IntKind.i64.wrap ((IntKind.i64.wrap ((1000 : Int) * IntKind.i64.wrap ((jOf (es.getD (↑(atK (xOf (ts.getD i AV.unk)) es) : Int).toNat AV.unk)) * IntKind.i64.wrap (G + (1 : Int))))).tdiv (IntKind.i64.wrap (IntKind.i64.wrap ((jOf (es.getD (↑(atK (xOf (ts.getD i AV.unk)) es) : Int).toNat AV.unk)) * IntKind.i64.wrap (G + (1 : Int))) + IntKind.i64.wrap ((gOf (es.getD (↑(atK (xOf (ts.getD i AV.unk)) es) : Int).toNat AV.unk)) * IntKind.i64.wrap (J + (1 : Int)))))))].length) (Try.prog.bytesOf (3 : Nat)) then bif decide (((↑ts.length : Int) - IntKind.i64.wrap ((↑i : Int) + (1 : Int))).toNat < ((↑ts.length : Int) - (↑i : Int)).toNat) then bif decide ((↑ts.length : Int) = (↑ts.length : Int) ∧ (0 : Int) ≤ IntKind.i64.wrap ((↑i : Int) + (1 : Int)) ∧ IntKind.i64.wrap ((↑i : Int) + (1 : Int)) ≤ (↑ts.length : Int) ∧ (↑ts.length : Int) ≤ (1000 : Int) ∧ es.length ≤ (2000 : Nat) ∧ (↑(out ++ [AV.int IntKind.i64 (IntKind.i64.wrap ((IntKind.i64.wrap ((1000 : Int) * IntKind.i64.wrap ((jOf (es.getD (↑(atK (xOf (ts.getD i AV.unk)) es) : Int).toNat AV.unk)) * IntKind.i64.wrap (G + (1 : Int))))).tdiv (IntKind.i64.wrap (IntKind.i64.wrap ((jOf (es.getD (↑(atK (xOf (ts.getD i AV.unk)) es) : Int).toNat AV.unk)) * IntKind.i64.wrap (G + (1 : Int))) + IntKind.i64.wrap ((gOf (es.getD (↑(atK (xOf (ts.getD i AV.unk)) es) : Int).toNat AV.unk)) * IntKind.i64.wrap (J + (1 : Int)))))))]).length : Int) ≤ IntKind.i64.wrap ((↑i : Int) + (1 : Int))) && nzD G J es then k (Ex.exit (0 : Nat)) [AV.ptr (0 : Nat) (0 : Nat), AV.ptr (2 : Nat) (0 : Nat), AV.own (900 : Nat), AV.slv Sh.str ts, AV.int IntKind.i64 (↑ts.length : Int), AV.int IntKind.i64 (↑ts.length : Int)] [some (Row.box false [AV.int IntKind.i64 G, AV.int IntKind.i64 J, AV.slv (Sh.agg [Sh.str, Sh.int IntKind.i64, Sh.int IntKind.i64]) es]), some (Row.box false [AV.int IntKind.i64 c, AV.int IntKind.i64 d]), some (Row.arr false (Sh.int IntKind.i64) (3 : Nat) (out ++ [AV.int IntKind.i64 (IntKind.i64.wrap ((IntKind.i64.wrap ((1000 : Int) * IntKind.i64.wrap ((jOf (es.getD (↑(atK (xOf (ts.getD i AV.unk)) es) : Int).toNat AV.unk)) * IntKind.i64.wrap (G + (1 : Int))))).tdiv (IntKind.i64.wrap (IntKind.i64.wrap ((jOf (es.getD (↑(atK (xOf (ts.getD i AV.unk)) es) : Int).toNat AV.unk)) * IntKind.i64.wrap (G + (1 : Int))) + IntKind.i64.wrap ((gOf (es.getD (↑(atK (xOf (ts.getD i AV.unk)) es) : Int).toNat AV.unk)) * IntKind.i64.wrap (J + (1 : Int)))))))] ++ ratL G J es (List.drop (IntKind.i64.wrap ((↑i : Int) + (1 : Int))).toNat ts)) none)] else none else none else none else none else none else bif decide (((↑ts.length : Int) - IntKind.i64.wrap ((↑i : Int) + (1 : Int))).toNat < ((↑ts.length : Int) - (↑i : Int)).toNat) then bif decide ((↑ts.length : Int) = (↑ts.length : Int) ∧ (0 : Int) ≤ IntKind.i64.wrap ((↑i : Int) + (1 : Int)) ∧ IntKind.i64.wrap ((↑i : Int) + (1 : Int)) ≤ (↑ts.length : Int) ∧ (↑ts.length : Int) ≤ (1000 : Int) ∧ es.length ≤ (2000 : Nat) ∧ (↑out.length : Int) ≤ IntKind.i64.wrap ((↑i : Int) + (1 : Int))) && nzD G J es then k (Ex.exit (0 : Nat)) [AV.ptr (0 : Nat) (0 : Nat), AV.ptr (2 : Nat) (0 : Nat), AV.own (900 : Nat), AV.slv Sh.str ts, AV.int IntKind.i64 (↑ts.length : Int), AV.int IntKind.i64 (↑ts.length : Int)] [some (Row.box false [AV.int IntKind.i64 G, AV.int IntKind.i64 J, AV.slv (Sh.agg [Sh.str, Sh.int IntKind.i64, Sh.int IntKind.i64]) es]), some (Row.box false [AV.int IntKind.i64 c, AV.int IntKind.i64 d]), some (Row.arr false (Sh.int IntKind.i64) (3 : Nat) (out ++ ratL G J es (List.drop (IntKind.i64.wrap ((↑i : Int) + (1 : Int))).toNat ts)) none)] else none else none else none else none else k (Ex.exit (0 : Nat)) [AV.ptr (0 : Nat) (0 : Nat), AV.ptr (2 : Nat) (0 : Nat), AV.own (900 : Nat), AV.slv Sh.str ts, AV.int IntKind.i64 (↑ts.length : Int), AV.int IntKind.i64 (↑i : Int)] [some (Row.box false [AV.int IntKind.i64 G, AV.int IntKind.i64 J, AV.slv (Sh.agg [Sh.str, Sh.int IntKind.i64, Sh.int IntKind.i64]) es]), some (Row.box false [AV.int IntKind.i64 c, AV.int IntKind.i64 d]), some (Row.arr false (Sh.int IntKind.i64) (3 : Nat) out none)]) (by kernel_rfl) ?_
    rw [← hk]
    by_cases hlt : i < ts.length
    · have w1 : IntKind.i64.wrap ((i : Int) + 1) = ((i + 1 : Nat) : Int) := by rw [wrap_mid _ (by omega) (by omega)]; omega
      rw [w1, drop_getD hlt, ratL_cons]
      refine Eq.trans (cond_t (decide_eq_true (by omega))) (Eq.trans (cond_t (inb_true (by omega) (by omega))) (Eq.trans (cond_t (decide_eq_true (by omega))) ?_))
      cases hk2 : isK (xOf (ts.getD i .unk)) es
      · refine Eq.trans (cond_f rfl) (Eq.trans (cond_t (decide_eq_true (by omega))) (Eq.trans (cond_t (and_t (decide_eq_true ⟨rfl, by omega, by omega, by omega, by omega, by omega⟩) hnz)) ?_))
        rw [Int.toNat_natCast]
        rfl
      · have hat : atK (xOf (ts.getD i .unk)) es < es.length := by
          unfold isK at hk2
          simp only [Bool.and_eq_true, decide_eq_true_eq] at hk2
          exact hk2.1
        have hz : ¬ (ratD G J (es.getD (atK (xOf (ts.getD i .unk)) es) .unk) = 0) := by
          have := List.all_eq_true.1 hnz _ (by rw [getD_eq hat]; exact List.getElem_mem hat : es.getD (atK (xOf (ts.getD i .unk)) es) .unk ∈ es)
          simpa using this
        refine Eq.trans (cond_t rfl) (Eq.trans (cond_t (inb_true (by omega) (by omega))) (Eq.trans (cond_t (inb_true (by omega) (by omega))) (Eq.trans (cond_f (decide_eq_false hz)) (Eq.trans (cond_t (roomB_small (by simp only [List.length_cons, List.length_nil]; omega) by3)) (Eq.trans (cond_t (decide_eq_true (by omega))) (Eq.trans (cond_t (and_t (decide_eq_true ⟨rfl, by omega, by omega, by omega, by omega, by simp only [List.length_append, List.length_cons, List.length_nil]; omega⟩) hnz)) ?_))))))
        rw [Int.toNat_natCast, List.append_assoc]
        rfl
    · obtain rfl : i = ts.length := by omega
      rw [decide_eq_false (by omega), List.drop_length]
      show _ = k (.exit 0) [.ptr 0 0, .ptr 2 0, .own 900, .slv .str ts, .int .i64 ts.length, .int .i64 ts.length] [some (.box false [.int .i64 G, .int .i64 J, .slv sK es]), some (.box false [.int .i64 c, .int .i64 d]), some (.arr false (.int .i64) 3 (out ++ []) none)]
      rw [List.append_nil]
      rfl
  · cases h
theorem loop8b : LoopOK Try.prog G8 [(6, l8), (19, m8)] c8 m8 := by
  refine loopT g8.natOK rfl (KOK.nil (by kernel_rfl)) μ8 (fun ρ vs rs k r h => ?_)
  unfold M8 at h
  split at h
  · rename_i m s m' n i' c d es sp
    obtain ⟨hc, hk⟩ := gd_some h
    simp only [Bool.and_eq_true] at hc
    obtain ⟨hc, hall⟩ := hc
    obtain ⟨rfl, c1, c2, c3, c4, c5, c6⟩ := of_decide_eq_true hc
    obtain ⟨i, rfl⟩ : ∃ i : Nat, i' = i := ⟨i'.toNat, by omega⟩
    rw [Int.toNat_natCast] at hk
    refine Eq.trans (b := bif decide ((↑i : Int) < (↑m' : Int)) then bif inb (↑i : Int) m' && decide ((0 : Nat) + m' ≤ es.length) then bif decide ((0 : Nat) + i < es.length) then bif decide (((↑m' : Int) - IntKind.i64.wrap ((↑i : Int) + (1 : Int))).toNat < ((↑m' : Int) - (↑i : Int)).toNat) then bif decide ((↑m' : Int) = (↑m' : Int) ∧ (0 : Int) ≤ IntKind.i64.wrap ((↑i : Int) + (1 : Int)) ∧ IntKind.i64.wrap ((↑i : Int) + (1 : Int)) ≤ (↑m' : Int) ∧ m' ≤ es.length ∧ m' ≤ (1000 : Nat) ∧ (0 : Int) ≤ IntKind.i64.wrap (s + (iv (es.getD ((0 : Nat) + i) AV.unk))) ∧ IntKind.i64.wrap (s + (iv (es.getD ((0 : Nat) + i) AV.unk))) ≤ (1000 : Int) * IntKind.i64.wrap ((↑i : Int) + (1 : Int))) && es.all fun e => inR (iv e) (0 : Int) (1000 : Int) then k (Ex.exit (2 : Nat)) [AV.ptr (2 : Nat) (0 : Nat), AV.sub (900 : Nat) (0 : Nat) m, AV.int IntKind.i64 (IntKind.i64.wrap (s + (iv (es.getD ((0 : Nat) + i) AV.unk))) + sumL (List.drop (IntKind.i64.wrap ((↑i : Int) + (1 : Int))).toNat (List.take m' es))), AV.sub (900 : Nat) (0 : Nat) m', AV.int IntKind.i64 (↑m' : Int), AV.int IntKind.i64 (↑m' : Int)] [some (Row.box false [AV.int IntKind.i64 c, AV.int IntKind.i64 d]), some (Row.arr false (Sh.int IntKind.i64) (3 : Nat) es sp)] else none else none else none else none else k (Ex.exit (2 : Nat)) [AV.ptr (2 : Nat) (0 : Nat), AV.sub (900 : Nat) (0 : Nat) m, AV.int IntKind.i64 s, AV.sub (900 : Nat) (0 : Nat) m', AV.int IntKind.i64 (↑m' : Int), AV.int IntKind.i64 (↑i : Int)] [some (Row.box false [AV.int IntKind.i64 c, AV.int IntKind.i64 d]), some (Row.arr false (Sh.int IntKind.i64) (3 : Nat) es sp)]) (by kernel_rfl) ?_
    rw [← hk]
    by_cases hlt : i < m'
    · have w1 : IntKind.i64.wrap ((i : Int) + 1) = ((i + 1 : Nat) : Int) := by rw [wrap_mid _ (by omega) (by omega)]; omega
      have hie : i < es.length := by omega
      have hm : es.getD i .unk ∈ es := by rw [getD_eq hie]; exact List.getElem_mem hie
      obtain ⟨v0, v1⟩ := inR_spec (List.all_eq_true.1 hall _ hm)
      have w2 : IntKind.i64.wrap (s + iv (es.getD i .unk)) = s + iv (es.getD i .unk) := wrap_mid _ (by omega) (by omega)
      have hd : (es.take m').drop i = es.getD i .unk :: (es.take m').drop (i + 1) := by
        rw [List.drop_eq_getElem_cons (by rw [List.length_take]; omega), List.getElem_take, getD_eq hie]
      rw [Nat.zero_add, Nat.zero_add, w1, w2, hd]
      refine Eq.trans (cond_t (decide_eq_true (by omega))) (Eq.trans (cond_t (and_t (inb_true (by omega) (by omega)) (decide_eq_true (by omega)))) (Eq.trans (cond_t (decide_eq_true (by omega))) (Eq.trans (cond_t (decide_eq_true (by omega))) (Eq.trans (cond_t (and_t (decide_eq_true ⟨rfl, by omega, by omega, by omega, by omega, by omega, by omega⟩) hall)) ?_))))
      rw [Int.toNat_natCast]
      show _ = k (.exit 2) [.ptr 2 0, .sub 900 0 m, .int .i64 (s + (iv (es.getD i .unk) + sumL ((es.take m').drop (i + 1)))), .sub 900 0 m', .int .i64 m', .int .i64 m'] [some (.box false [.int .i64 c, .int .i64 d]), some (.arr false (.int .i64) 3 es sp)]
      rw [← Int.add_assoc]
    · obtain rfl : i = m' := by omega
      have hdr : (es.take i).drop i = [] := List.drop_of_length_le (by rw [List.length_take]; omega)
      rw [decide_eq_false (by omega), hdr]
      show _ = k (.exit 2) [.ptr 2 0, .sub 900 0 m, .int .i64 (s + 0), .sub 900 0 i, .int .i64 i, .int .i64 i] [some (.box false [.int .i64 c, .int .i64 d]), some (.arr false (.int .i64) 3 es sp)]
      rw [Int.add_zero]
      rfl
  · cases h
theorem wrap_big (n : Int) (h : -100000000000000000 ≤ n) (h' : n ≤ 100000000000000000) : IntKind.i64.wrap n = n := Ev.wrap_small n (Int.le_trans (by decide) h) (Int.le_trans h' (by decide))
def ja (G : Int) (e : AV) : Int := jOf e * (G + 1)
def ga (J : Int) (e : AV) : Int := gOf e * (J + 1)
def rat (G J : Int) (e : AV) : Int := 1000 * ja G e / (ja G e + ga J e)
theorem prod_bd {a b : Int} (h0 : 0 ≤ a) (h1 : a ≤ 1000000) (h2 : 0 ≤ b) (h3 : b ≤ 1000000) : 0 ≤ a * (b + 1) ∧ a * (b + 1) ≤ 2000000000000 := by
  refine ⟨Int.mul_nonneg h0 (by omega), ?_⟩
  have := Int.mul_le_mul (a := a) (b := b + 1) (c := 1000000) (d := 1000001) h1 (by omega) (by omega) (by decide)
  omega
theorem rat_pos {G J : Int} {e : AV} (hG : 0 ≤ G) (hJ : 0 ≤ J) (h : okT G J e) : 0 < ja G e + ga J e := by
  obtain ⟨_, ⟨g0, _⟩, ⟨j0, _⟩, hz⟩ := h
  have a1 : 0 ≤ ja G e := Int.mul_nonneg j0 (by omega)
  have a2 : 0 ≤ ga J e := Int.mul_nonneg g0 (by omega)
  by_cases hg : gOf e = 0
  · have : 0 < jOf e := by have := hz hg; omega
    have : 0 < ja G e := Int.mul_pos this (by omega)
    omega
  · have : 0 < ga J e := Int.mul_pos (by omega) (by omega)
    omega
theorem rat_ok {G J : Int} {e : AV} (g0 : 0 ≤ G) (g1 : G ≤ 1000000) (j0 : 0 ≤ J) (j1 : J ≤ 1000000) (h : okT G J e) : ratD G J e = ja G e + ga J e ∧ ratW G J e = rat G J e ∧ 0 ≤ rat G J e ∧ rat G J e ≤ 1000 := by
  have hp := rat_pos g0 j0 h
  obtain ⟨_, ⟨a0, a1⟩, ⟨b0, b1⟩, _⟩ := h
  obtain ⟨p1, p2⟩ := prod_bd b0 (by omega : jOf e ≤ 1000000) g0 g1
  obtain ⟨q1, q2⟩ := prod_bd a0 (by omega : gOf e ≤ 1000000) j0 j1
  have r1 : 0 ≤ rat G J e := Int.ediv_nonneg (by unfold ja; omega) (by omega)
  have r2 : rat G J e ≤ 1000 := Int.ediv_le_of_le_mul hp (by have : 0 ≤ ga J e := q1; omega)
  have e1 : IntKind.i64.wrap (jOf e * IntKind.i64.wrap (G + 1)) = ja G e := by rw [wrap_mid (G + 1) (by omega) (by omega), wrap_big _ (by omega) (by omega)]; rfl
  have e2 : IntKind.i64.wrap (gOf e * IntKind.i64.wrap (J + 1)) = ga J e := by rw [wrap_mid (J + 1) (by omega) (by omega), wrap_big _ (by omega) (by omega)]; rfl
  have e3 : IntKind.i64.wrap (ja G e + ga J e) = ja G e + ga J e := wrap_big _ (by unfold ja ga; omega) (by unfold ja ga; omega)
  have e4 : IntKind.i64.wrap (1000 * ja G e) = 1000 * ja G e := wrap_big _ (by unfold ja; omega) (by unfold ja; omega)
  refine ⟨by unfold ratD; rw [e1, e2, e3], ?_, r1, r2⟩
  unfold ratW
  rw [e1, e2, e3, e4, Int.tdiv_eq_ediv_of_nonneg (by unfold ja; omega)]
  exact wrap_mid _ (by show -1000000000000 ≤ rat G J e; omega) (by show rat G J e ≤ 1000000000000; omega)
theorem nzD_ok {G J : Int} {es : List AV} (h : Wd G J es) : nzD G J es = true := List.all_eq_true.2 fun e he => by
  have := (rat_ok h.g0 h.g1 h.j0 h.j1 (h.all e he)).1
  have hp := rat_pos h.g0 h.j0 (h.all e he)
  rw [this]
  simp
  omega
theorem ratL_all {G J : Int} {es : List AV} (h : Wd G J es) : ∀ ts, (ratL G J es ts).all (fun e => inR (iv e) 0 1000) = true
  | [] => rfl
  | t :: r => by
    rw [ratL_cons]
    cases hk : isK (xOf t) es
    · exact ratL_all h r
    · have hat : atK (xOf t) es < es.length := by
        unfold isK at hk
        simp only [Bool.and_eq_true, decide_eq_true_eq] at hk
        exact hk.1
      obtain ⟨_, e2, e3, e4⟩ := rat_ok h.g0 h.g1 h.j0 h.j1 (h.all _ (by rw [getD_eq hat]; exact List.getElem_mem hat : es.getD (atK (xOf t) es) .unk ∈ es))
      rw [cond_true, List.all_cons, ratL_all h r, Bool.and_true]
      show inR (ratW G J (es.getD (atK (xOf t) es) .unk)) 0 1000 = true
      rw [e2]
      exact inR_of e3 e4
def scoreO (G J : Int) (es ts : List AV) : Int := bif (commF G J es ts).1 != 0 then 0 else match ratL G J es ts with
  | [] => 500
  | e :: _ => iv e
def F8 : List AV → Tr AV
  | [.agg [.int .i64 G, .int .i64 J, .slv (.agg [.str, .int .i64, .int .i64]) es], .slv .str ts] => .gd (small es.length && (small ts.length && decide ((ratL G J es ts).length ≤ 1))) (.leaf (.tup [.int .i64 (scoreO G J es ts), fault (commF G J es ts)]))
  | _ => .no
theorem ok8 : SumOK Try.prog 8 (ofT F8) ∧ SNat (ofT F8) := by
  refine fnT (K := [(6, l8), (19, m8)]) (bs := [b8, c8]) g8 Try.func8 (by kernel_rfl) (fun b hb => ?_) fun ρ avs k r h => ?_
  · rcases List.mem_cons.1 hb with rfl | hb
    · exact ⟨l8, by kernel_rfl, loop8⟩
    · rcases List.mem_cons.1 hb with rfl | hb
      · exact ⟨m8, by kernel_rfl, loop8b⟩
      · cases hb
  unfold F8 at h
  split at h
  · rename_i G J es ts
    obtain ⟨hc, hk⟩ := gd_some h
    simp only [Bool.and_eq_true] at hc
    obtain ⟨hs, ht, hl⟩ := hc
    have hl := of_decide_eq_true hl
    refine Eq.trans (b := bif small es.length && small ts.length then bif (commF G J es ts).fst != (0 : Int) then k (AV.tup [AV.int IntKind.i64 (0 : Int), AV.agg [AV.int IntKind.i64 (commF G J es ts).fst, AV.int IntKind.i64 (commF G J es ts).snd]]) else bif decide ((↑ts.length : Int) = (↑ts.length : Int) ∧ (0 : Int) ≤ (0 : Int) ∧ (0 : Int) ≤ (↑ts.length : Int) ∧ (↑ts.length : Int) ≤ (1000 : Int) ∧ es.length ≤ (2000 : Nat) ∧ (↑([] : List AV).length : Int) ≤ (0 : Int)) && nzD G J es then bif (↑([] ++ ratL G J es (List.drop (0 : Nat) ts)).length : Int) == (0 : Int) then k (AV.tup [AV.int IntKind.i64 (500 : Int), AV.agg [AV.int IntKind.i64 (0 : Int), AV.int IntKind.i64 (0 : Int)]]) else bif ((fun x => PID + x) (0 : Nat)).beq PID && decide (([] ++ ratL G J es (List.drop (0 : Nat) ts)).length ≤ (1 : Nat)) then bif slb (0 : Int) (if (15 : Int) < (↑([] ++ ratL G J es (List.drop (0 : Nat) ts)).length : Int) then (15 : Int) else (↑([] ++ ratL G J es (List.drop (0 : Nat) ts)).length : Int)) ([] ++ ratL G J es (List.drop (0 : Nat) ts)).length then bif decide (Int.toNat (0 : Int) + ((if (15 : Int) < (↑([] ++ ratL G J es (List.drop (0 : Nat) ts)).length : Int) then (15 : Int) else (↑([] ++ ratL G J es (List.drop (0 : Nat) ts)).length : Int)).toNat - Int.toNat (0 : Int)) ≤ ([] ++ ratL G J es (List.drop (0 : Nat) ts)).length) then bif decide ((↑(List.take ((if (15 : Int) < (↑([] ++ ratL G J es (List.drop (0 : Nat) ts)).length : Int) then (15 : Int) else (↑([] ++ ratL G J es (List.drop (0 : Nat) ts)).length : Int)).toNat - Int.toNat (0 : Int)) (List.drop (0 : Nat) ([] ++ ratL G J es (List.drop (0 : Nat) ts)))).length : Int) = (↑((if (15 : Int) < (↑([] ++ ratL G J es (List.drop (0 : Nat) ts)).length : Int) then (15 : Int) else (↑([] ++ ratL G J es (List.drop (0 : Nat) ts)).length : Int)).toNat - Int.toNat (0 : Int)) : Int) ∧ (0 : Int) ≤ (0 : Int) ∧ (0 : Int) ≤ (↑(List.take ((if (15 : Int) < (↑([] ++ ratL G J es (List.drop (0 : Nat) ts)).length : Int) then (15 : Int) else (↑([] ++ ratL G J es (List.drop (0 : Nat) ts)).length : Int)).toNat - Int.toNat (0 : Int)) (List.drop (0 : Nat) ([] ++ ratL G J es (List.drop (0 : Nat) ts)))).length : Int) ∧ (if (15 : Int) < (↑([] ++ ratL G J es (List.drop (0 : Nat) ts)).length : Int) then (15 : Int) else (↑([] ++ ratL G J es (List.drop (0 : Nat) ts)).length : Int)).toNat - Int.toNat (0 : Int) ≤ ([] ++ ratL G J es (List.drop (0 : Nat) ts)).length ∧ (if (15 : Int) < (↑([] ++ ratL G J es (List.drop (0 : Nat) ts)).length : Int) then (15 : Int) else (↑([] ++ ratL G J es (List.drop (0 : Nat) ts)).length : Int)).toNat - Int.toNat (0 : Int) ≤ (1000 : Nat) ∧ (0 : Int) ≤ (0 : Int) ∧ (0 : Int) ≤ (1000 : Int) * (0 : Int)) && ([] ++ ratL G J es (List.drop (0 : Nat) ts)).all fun e => inR (iv e) (0 : Int) (1000 : Int) then bif decide ((0 : Nat) + ((if (15 : Int) < (↑([] ++ ratL G J es (List.drop (0 : Nat) ts)).length : Int) then (15 : Int) else (↑([] ++ ratL G J es (List.drop (0 : Nat) ts)).length : Int)).toNat - Int.toNat (0 : Int)) ≤ ([] ++ ratL G J es (List.drop (0 : Nat) ts)).length) then bif decide ((↑(List.take ((if (15 : Int) < (↑([] ++ ratL G J es (List.drop (0 : Nat) ts)).length : Int) then (15 : Int) else (↑([] ++ ratL G J es (List.drop (0 : Nat) ts)).length : Int)).toNat - Int.toNat (0 : Int)) (List.drop (0 : Nat) ([] ++ ratL G J es (List.drop (0 : Nat) ts)))).length : Int) = (0 : Int)) then none else k (AV.tup [AV.int IntKind.i64 (IntKind.i64.wrap (((0 : Int) + sumL (List.drop (0 : Nat) (List.take ((if (15 : Int) < (↑([] ++ ratL G J es (List.drop (0 : Nat) ts)).length : Int) then (15 : Int) else (↑([] ++ ratL G J es (List.drop (0 : Nat) ts)).length : Int)).toNat - Int.toNat (0 : Int)) ([] ++ ratL G J es (List.drop (0 : Nat) ts))))).tdiv (↑(List.take ((if (15 : Int) < (↑([] ++ ratL G J es (List.drop (0 : Nat) ts)).length : Int) then (15 : Int) else (↑([] ++ ratL G J es (List.drop (0 : Nat) ts)).length : Int)).toNat - Int.toNat (0 : Int)) (List.drop (0 : Nat) ([] ++ ratL G J es (List.drop (0 : Nat) ts)))).length : Int))), AV.agg [AV.int IntKind.i64 (0 : Int), AV.int IntKind.i64 (0 : Int)]]) else none else none else none else none else none else none else none) (by kernel_rfl) ?_
    rw [← hk, hs, ht]
    show _ = k (.tup [.int .i64 (scoreO G J es ts), fault (commF G J es ts)])
    unfold scoreO
    cases hv : (commF G J es ts).1 != 0
    · obtain ⟨hz, W, T⟩ := comm_ok hv
      have w1 := W.len
      have t1 := T.len
      have hr := ratL_all W ts
      rw [hz, nzD_ok W, List.drop_zero, List.nil_append]
      have gd : (decide ((ts.length : Int) = (ts.length : Int) ∧ (0 : Int) ≤ 0 ∧ (0 : Int) ≤ (ts.length : Int) ∧ (ts.length : Int) ≤ 1000 ∧ es.length ≤ 2000 ∧ ((([] : List AV).length : Nat) : Int) ≤ 0) && true) = true := and_t (decide_eq_true ⟨rfl, by omega, by omega, by omega, by omega, by simp⟩) rfl
      rw [gd]
      generalize ratL G J es ts = l at hl hr
      match l, hl, hr with
      | [], _, _ => rfl
      | [x], _, hr =>
        have hx : inR (iv x) 0 1000 = true := by simpa using hr
        obtain ⟨x0, x1⟩ := inR_spec hx
        show (bif true && (inR (iv x) 0 1000 && true) then k (.tup [.int .i64 (IntKind.i64.wrap ((0 + (iv x + 0)).tdiv 1)), .agg [.int .i64 0, .int .i64 0]]) else none) = k (.tup [.int .i64 (iv x), fault (0, 0)])
        rw [hx, Int.add_zero, Int.zero_add, Int.tdiv_one, wrap_mid _ (by omega) (by omega)]
        rfl
    · rfl
  · cases h
end Go.Proofs.Ytpgaobdgohlegaa
