/-
  The classifier: WordScore.
-/
import Derived.Test.YtpgaobdgohlegaaClW
namespace Go.Proofs.Ytpgaobdgohlegaa
open Go.Ev

def rowT (G J : Int) (es : List AV) (s : List UInt8) : List AV := (es.filter fun e => xOf e == s).map fun e => .int .i64 (ratW G J e)
def M11 : List AV → List (Option Row) → Tr LOut
  | [.slv .str ts, .ptr 0 0, .int .i64 z, .own 900, .int .i64 q, .int .i64 i], [some (.box false [.int .i64 G, .int .i64 J, .slv (.agg [.str, .int .i64, .int .i64]) es]), some (.arr false (.int .i64) 3 out none)] =>
    .gd (decide (0 ≤ i ∧ i ≤ es.length ∧ es.length ≤ 2000 ∧ 0 ≤ q ∧ q < ts.length ∧ ts.length ≤ 1000 ∧ out.length ≤ 2000 * q + i) && nzD G J es) (.leaf (.exit 2, [.slv .str ts, .ptr 0 0, .int .i64 z, .own 900, .int .i64 q, .int .i64 es.length], [some (.box false [.int .i64 G, .int .i64 J, .slv sK es]), some (.arr false (.int .i64) 3 (out ++ rowT G J (es.drop i.toNat) (xOf (ts.getD q.toNat .unk))) none)]))
  | _, _ => .no
def m11 : Ev.Loop := ⟨{ len := 135, slots := [1, 2, 4, 5, 6, 7], rows := [0, 900], homes := [(5, 900, 3)] }, ofL M11⟩
def L11 : List AV → List (Option Row) → Tr LOut
  | [.slv .str ts, .ptr 0 0, .int .i64 z, .own 900, .int .i64 q], [some (.box false [.int .i64 G, .int .i64 J, .slv (.agg [.str, .int .i64, .int .i64]) es]), some (.arr false (.int .i64) 3 out none)] =>
    .gd (decide (es.length ≤ 2000 ∧ 0 ≤ q ∧ q ≤ ts.length ∧ ts.length ≤ 1000 ∧ out.length ≤ 2000 * q) && nzD G J es) (.leaf (.exit 0, [.slv .str ts, .ptr 0 0, .int .i64 z, .own 900, .int .i64 ts.length], [some (.box false [.int .i64 G, .int .i64 J, .slv sK es]), some (.arr false (.int .i64) 3 (out ++ (ts.drop q.toNat).flatMap fun t => rowT G J es (xOf t)) none)]))
  | _, _ => .no
def l11 : Ev.Loop := ⟨{ len := 135, slots := [1, 2, 4, 5, 6], rows := [0, 900], homes := [(5, 900, 3)] }, ofL L11⟩
def tkV (t : AV) : Bool := (t.cells.headD .unk).toBool
def tkB (tk : List AV) (i : Nat) : Bool := tkV (tk.getD i .unk)
def bstN (es tk : List AV) : Nat → Nat → Int → Int
  | 0, _, b => b
  | n + 1, i, b => bstN es tk n (i + 1) (bif !tkB tk i && (decide (b < 0) || decide (dst (es.getD i .unk) > dst (es.getD b.toNat .unk))) then (i : Int) else b)
theorem bstN_succ (es tk : List AV) (n i : Nat) (b : Int) : bstN es tk (n + 1) i b = bstN es tk n (i + 1) (bif !tkB tk i && (decide (b < 0) || decide (dst (es.getD i .unk) > dst (es.getD b.toNat .unk))) then (i : Int) else b) := rfl
def Q11 : List AV → List (Option Row) → Tr LOut
  | [.int .i64 z, .own 900, .own 770, .int .i64 s, .int .i64 n, .int .i64 x, .int .i64 b, .int .i64 i], [some (.arr false .bool 4 tk none), some (.arr false (.int .i64) 3 es none)] =>
    .gd (decide (0 ≤ i ∧ i ≤ es.length ∧ es.length ≤ 1000 ∧ tk.length = es.length ∧ -1 ≤ b ∧ b < es.length) && okL es) (.leaf (.exit 6, [.int .i64 z, .own 900, .own 770, .int .i64 s, .int .i64 n, .int .i64 x, .int .i64 (bstN es tk (es.length - i.toNat) i.toNat b), .int .i64 es.length], [some (.arr false .bool 4 tk none), some (.arr false (.int .i64) 3 es none)]))
  | _, _ => .no
def q11 : Ev.Loop := ⟨{ len := 135, slots := [4, 5, 10, 11, 12, 13, 14, 15], rows := [770, 900] }, ofL Q11⟩
def pkN (es : List AV) : Nat → List AV → Int → Int × List AV
  | 0, tk, s => (s, tk)
  | n + 1, tk, s => pkN es n (tk.set (bstN es tk es.length 0 (-1)).toNat (.bool true)) (s + iv (es.getD (bstN es tk es.length 0 (-1)).toNat .unk))
theorem pkN_succ (es : List AV) (n : Nat) (tk : List AV) (s : Int) : pkN es (n + 1) tk s = pkN es n (tk.set (bstN es tk es.length 0 (-1)).toNat (.bool true)) (s + iv (es.getD (bstN es tk es.length 0 (-1)).toNat .unk)) := rfl
def remL : List AV → List AV → List AV
  | e :: es, t :: tk => bif tkV t then remL es tk else e :: remL es tk
  | _, _ => []
def P11 : List AV → List (Option Row) → Tr LOut
  | [.int .i64 z, .own 900, .own 770, .int .i64 s, .int .i64 n, .int .i64 x], [some (.arr false .bool 4 tk none), some (.arr false (.int .i64) 3 es none)] =>
    .gd (decide (0 ≤ x ∧ x ≤ n ∧ n ≤ 15 ∧ es.length ≤ 1000 ∧ tk.length = es.length ∧ 0 ≤ s ∧ s ≤ 1000 * x ∧ n - x ≤ (remL es tk).length) && okL es) (.leaf (.exit 4, [.int .i64 z, .own 900, .own 770, .int .i64 (pkN es (n - x).toNat tk s).1, .int .i64 n, .int .i64 n], [some (.arr false .bool 4 (pkN es (n - x).toNat tk s).2 none), some (.arr false (.int .i64) 3 es none)]))
  | _, _ => .no
def p11 : Ev.Loop := ⟨{ len := 135, slots := [4, 5, 10, 11, 12, 13], rows := [770, 900] }, ofL P11⟩
def K11 : List (Nat × Ev.Loop) := [(3, l11), (6, m11), (16, p11), (20, q11)]
theorem remL_cons (e t : AV) (es tk : List AV) : remL (e :: es) (t :: tk) = bif tkV t then remL es tk else e :: remL es tk := rfl
theorem rem_mem : ∀ {es tk : List AV}, tk.length = es.length → ∀ x, x ∈ remL es tk ↔ ∃ j, j < es.length ∧ tkB tk j = false ∧ x = es.getD j .unk
  | [], [], _, x => by simp [remL]
  | e :: es, t :: tk, hl, x => by
    have hl' : tk.length = es.length := by simpa using hl
    rw [remL_cons]
    have ih := rem_mem hl' x
    constructor
    · intro h
      cases ht : tkV t
      · rw [ht, cond_false] at h
        rcases List.mem_cons.1 h with h | h
        · exact ⟨0, by simp, ht, by rw [h]; rfl⟩
        · obtain ⟨j, j1, j2, j3⟩ := ih.1 h
          exact ⟨j + 1, by simp; omega, j2, j3⟩
      · rw [ht, cond_true] at h
        obtain ⟨j, j1, j2, j3⟩ := ih.1 h
        exact ⟨j + 1, by simp; omega, j2, j3⟩
    · rintro ⟨j, j1, j2, j3⟩
      cases j with
      | zero =>
        have ht : tkV t = false := j2
        rw [ht, cond_false, j3]
        exact List.mem_cons_self ..
      | succ j =>
        have hm := ih.2 ⟨j, by simp at j1; omega, j2, j3⟩
        cases tkV t
        · exact List.mem_cons_of_mem _ hm
        · exact hm
  | [], _ :: _, hl, _ => by simp at hl
  | _ :: _, [], hl, _ => by simp at hl
theorem rem_split : ∀ {es tk : List AV} {b : Nat}, tk.length = es.length → b < es.length → tkB tk b = false → remL es tk = remL (es.take b) (tk.take b) ++ es.getD b .unk :: remL (es.drop (b + 1)) (tk.drop (b + 1)) ∧ remL es (tk.set b (.bool true)) = remL (es.take b) (tk.take b) ++ remL (es.drop (b + 1)) (tk.drop (b + 1))
  | e :: es, t :: tk, 0, _, _, hb => by
    have ht : tkV t = false := hb
    refine ⟨?_, rfl⟩
    rw [remL_cons, ht]
    rfl
  | e :: es, t :: tk, b + 1, hl, hlt, hb => by
    obtain ⟨i1, i2⟩ := rem_split (es := es) (tk := tk) (b := b) (by simpa using hl) (by simpa using hlt) hb
    refine ⟨?_, ?_⟩
    · rw [remL_cons, i1, List.take_succ_cons, List.take_succ_cons, remL_cons]
      cases tkV t <;> rfl
    · rw [List.set_cons_succ, remL_cons, i2, List.take_succ_cons, List.take_succ_cons, remL_cons]
      cases tkV t <;> rfl
  | [], _, _, _, hlt, _ => by simp at hlt
  | _ :: _, [], _, hl, _, _ => by simp at hl
def Best (es tk : List AV) (i : Nat) (b : Int) : Prop := (b = -1 ∧ ∀ j, j < i → tkB tk j = true) ∨ (0 ≤ b ∧ b < (i : Int) ∧ tkB tk b.toNat = false ∧ (∀ j, j < b.toNat → tkB tk j = false → dst (es.getD j .unk) < dst (es.getD b.toNat .unk)) ∧ ∀ j, b.toNat < j → j < i → tkB tk j = false → dst (es.getD j .unk) ≤ dst (es.getD b.toNat .unk))
theorem bst_best (es tk : List AV) : ∀ (n i : Nat) (b : Int), Best es tk i b → Best es tk (i + n) (bstN es tk n i b)
  | 0, _, _, h => h
  | n + 1, i, b, h => by
    rw [bstN_succ, show i + (n + 1) = i + 1 + n from by omega]
    refine bst_best es tk n (i + 1) _ ?_
    cases ht : tkB tk i
    · rcases h with ⟨rfl, h⟩ | ⟨h1, h2, h3, h4, h5⟩
      · refine .inr ⟨?_, ?_, ?_, ?_, ?_⟩
        · show (0 : Int) ≤ (i : Int); omega
        · show (i : Int) < ((i + 1 : Nat) : Int); omega
        · show tkB tk (i : Int).toNat = false; rw [Int.toNat_natCast]; exact ht
        · show ∀ j, j < (i : Int).toNat → _
          rw [Int.toNat_natCast]
          intro j hj hf; rw [h j hj] at hf; cases hf
        · show ∀ j, (i : Int).toNat < j → _
          rw [Int.toNat_natCast]
          intro j hj hj2; omega
      · rw [decide_eq_false (by omega : ¬ b < 0), Bool.false_or]
        by_cases hd : dst (es.getD i .unk) > dst (es.getD b.toNat .unk)
        · rw [decide_eq_true hd]
          refine .inr ⟨?_, ?_, ?_, ?_, ?_⟩
          · show (0 : Int) ≤ (i : Int); omega
          · show (i : Int) < ((i + 1 : Nat) : Int); omega
          · show tkB tk (i : Int).toNat = false; rw [Int.toNat_natCast]; exact ht
          · show ∀ j, j < (i : Int).toNat → tkB tk j = false → dst (es.getD j .unk) < dst (es.getD (i : Int).toNat .unk)
            rw [Int.toNat_natCast]
            intro j hj hf
            rcases Nat.lt_trichotomy j b.toNat with hlt | heq | hgt
            · have := h4 j hlt hf; omega
            · rw [heq]; exact hd
            · have := h5 j hgt hj hf; omega
          · show ∀ j, (i : Int).toNat < j → _
            rw [Int.toNat_natCast]
            intro j hj hj2; omega
        · rw [decide_eq_false hd]
          refine .inr ⟨h1, by show b < ((i + 1 : Nat) : Int); omega, h3, h4, fun j hj hj2 hf => ?_⟩
          rcases Nat.lt_or_ge j i with h6 | h6
          · exact h5 j hj h6 hf
          · obtain rfl : j = i := by omega
            exact Int.not_lt.1 hd
    · rcases h with ⟨rfl, h⟩ | ⟨h1, h2, h3, h4, h5⟩
      · refine .inl ⟨rfl, fun j hj => ?_⟩
        rcases Nat.lt_or_ge j i with h6 | h6
        · exact h j h6
        · obtain rfl : j = i := by omega
          exact ht
      · refine .inr ⟨h1, by show b < ((i + 1 : Nat) : Int); omega, h3, h4, fun j hj hj2 hf => ?_⟩
        rcases Nat.lt_or_ge j i with h6 | h6
        · exact h5 j hj h6 hf
        · obtain rfl : j = i := by omega
          rw [ht] at hf; cases hf
theorem best_rem {es tk : List AV} (hl : tk.length = es.length) (h : remL es tk ≠ []) : 0 ≤ bstN es tk es.length 0 (-1) ∧ bstN es tk es.length 0 (-1) < es.length ∧ sortS (remL es tk) = es.getD (bstN es tk es.length 0 (-1)).toNat .unk :: sortS (remL es (tk.set (bstN es tk es.length 0 (-1)).toNat (.bool true))) ∧ (remL es tk).length = (remL es (tk.set (bstN es tk es.length 0 (-1)).toNat (.bool true))).length + 1 := by
  have hB := bst_best es tk es.length 0 (-1) (.inl ⟨rfl, fun j hj => by omega⟩)
  rw [Nat.zero_add] at hB
  generalize bstN es tk es.length 0 (-1) = b at hB
  rcases hB with ⟨rfl, hB⟩ | ⟨h1, h2, h3, h4, h5⟩
  · exfalso
    obtain ⟨x, hx⟩ := List.exists_mem_of_ne_nil _ h
    obtain ⟨j, j1, j2, _⟩ := (rem_mem hl x).1 hx
    rw [hB j j1] at j2; cases j2
  · obtain ⟨q, rfl⟩ : ∃ q : Nat, b = q := ⟨b.toNat, by omega⟩
    rw [Int.toNat_natCast] at h3 h4 h5 ⊢
    have hq : q < es.length := by omega
    obtain ⟨s1, s2⟩ := rem_split hl hq h3
    have lt : (tk.take q).length = (es.take q).length := by rw [List.length_take, List.length_take, hl]
    have ld : (tk.drop (q + 1)).length = (es.drop (q + 1)).length := by rw [List.length_drop, List.length_drop, hl]
    have hA : ∀ x ∈ remL (es.take q) (tk.take q), dst x < dst (es.getD q .unk) := fun x hx => by
      obtain ⟨j, j1, j2, rfl⟩ := (rem_mem lt x).1 hx
      rw [List.length_take] at j1
      have e1 : (es.take q).getD j .unk = es.getD j .unk := by
        simp only [List.getD_eq_getElem?_getD]
        rw [List.getElem?_take_of_lt (by omega)]
      have e2 : tkB (tk.take q) j = tkB tk j := by
        unfold tkB
        simp only [List.getD_eq_getElem?_getD]
        rw [List.getElem?_take_of_lt (by omega)]
      rw [e1]
      exact h4 j (by omega) (by rw [← e2]; exact j2)
    have hD : ∀ x ∈ remL (es.drop (q + 1)) (tk.drop (q + 1)), dst x ≤ dst (es.getD q .unk) := fun x hx => by
      obtain ⟨j, j1, j2, rfl⟩ := (rem_mem ld x).1 hx
      rw [List.length_drop] at j1
      have e1 : (es.drop (q + 1)).getD j .unk = es.getD (q + 1 + j) .unk := by
        simp only [List.getD_eq_getElem?_getD]
        rw [List.getElem?_drop]
      have e2 : tkB (tk.drop (q + 1)) j = tkB tk (q + 1 + j) := by
        unfold tkB
        simp only [List.getD_eq_getElem?_getD]
        rw [List.getElem?_drop]
      rw [e1]
      exact h5 (q + 1 + j) (by omega) (by omega) (by rw [← e2]; exact j2)
    refine ⟨by omega, by omega, ?_, ?_⟩
    · rw [s1, s2]
      generalize remL (es.take q) (tk.take q) = A at hA
      generalize remL (es.drop (q + 1)) (tk.drop (q + 1)) = B at hD
      generalize es.getD q .unk = x at hA hD
      symm
      refine sortS_eq (List.pairwise_cons.2 ⟨fun y hy => ?_, sortS_dn _⟩) ?_
      · rcases List.mem_append.1 (sortS_mem.1 hy) with h | h
        · have := hA y h; omega
        · exact hD y h
      · have h1 : Same (A ++ [x]) ([x] ++ A) := Same.swap fun a ha c hc => by
          have := hA a ha
          rw [List.mem_singleton.1 hc]; omega
        have h2 := (h1.app (Same.refl B)).trans ((Same.refl [x]).app (sortS_same (A ++ B)) |> fun h => by simpa using h)
        simpa using h2
    · rw [s1, s2]; simp; omega
theorem pk_eq {es : List AV} : ∀ (n : Nat) (tk : List AV) (s : Int), tk.length = es.length → n ≤ (remL es tk).length → (pkN es n tk s).1 = s + sumL ((sortS (remL es tk)).take n)
  | 0, _, s, _, _ => by simp [pkN, sumL]
  | n + 1, tk, s, hl, hn => by
    have hne : remL es tk ≠ [] := fun h => by rw [h] at hn; simp at hn
    obtain ⟨b0, b1, b2, b3⟩ := best_rem hl hne
    rw [pkN_succ, b2, List.take_succ_cons, pk_eq n _ _ (by rw [List.length_set]; exact hl) (by omega)]
    show _ = s + (iv _ + sumL _)
    omega
noncomputable def lp11 (i : Nat) : Code := ((Try.f11.body.map loopsOf).getD []).getD i .skip
def μ11 (vs : List AV) (rs : List (Option Row)) : Nat := match vs, rs with
  | [_, _, _, _, _, .int _ i], [some (.box _ [_, _, .slv _ es]), _] => ((es.length : Int) - i).toNat
  | [.slv _ ts, _, _, _, .int _ q], _ => ((ts.length : Int) - q).toNat
  | [_, _, _, _, _, _, _, .int _ i], [_, some (.arr _ _ _ es _)] => ((es.length : Int) - i).toNat
  | [_, _, _, _, .int _ n, .int _ x], _ => (n - x).toNat
  | _, _ => 0
theorem loopM11 : LoopOK Try.prog G1 K11 (lp11 1) m11 := by
  refine loopT g1.natOK rfl (KOK.nil (by kernel_rfl)) μ11 (fun ρ vs rs k r h => ?_)
  unfold M11 at h
  split at h
  · rename_i ts z q' i' G J es out
    obtain ⟨hc, hk⟩ := gd_some h
    clear h
    simp only [Bool.and_eq_true] at hc
    obtain ⟨hc, hnz⟩ := hc
    obtain ⟨c1, c2, c3, c4, c5, c6, c7⟩ := of_decide_eq_true hc
    obtain ⟨i, rfl⟩ : ∃ i : Nat, i' = i := ⟨i'.toNat, by omega⟩
    obtain ⟨q, rfl⟩ : ∃ i : Nat, q' = i := ⟨q'.toNat, by omega⟩
    simp only [Int.toNat_natCast] at hk
    refine Eq.trans (b := bif decide ((↑i : Int) < (↑es.length : Int)) then bif inb (↑i : Int) es.length then bif inb (↑q : Int) ts.length then bif (xOf (es.getD i AV.unk)) == (xOf (ts.getD q AV.unk)) then bif inb (↑i : Int) es.length then bif inb (↑i : Int) es.length then bif decide (IntKind.i64.wrap (IntKind.i64.wrap ((jOf (es.getD i AV.unk)) * IntKind.i64.wrap (G + (1 : Int))) + IntKind.i64.wrap ((gOf (es.getD i AV.unk)) * IntKind.i64.wrap (J + (1 : Int)))) = (0 : Int)) then none else bif roomB (out.length + [AV.int IntKind.i64 (IntKind.i64.wrap ((IntKind.i64.wrap ((1000 : Int) * IntKind.i64.wrap ((jOf (es.getD i AV.unk)) * IntKind.i64.wrap (G + (1 : Int))))).tdiv (IntKind.i64.wrap (IntKind.i64.wrap ((jOf (es.getD i AV.unk)) * IntKind.i64.wrap (G + (1 : Int))) + IntKind.i64.wrap ((gOf (es.getD i AV.unk)) * IntKind.i64.wrap (J + (1 : Int)))))))].length) (Try.prog.bytesOf (3 : Nat)) then bif decide (((↑es.length : Int) - IntKind.i64.wrap ((↑i : Int) + (1 : Int))).toNat < ((↑es.length : Int) - (↑i : Int)).toNat) then bif decide ((0 : Int) ≤ IntKind.i64.wrap ((↑i : Int) + (1 : Int)) ∧ IntKind.i64.wrap ((↑i : Int) + (1 : Int)) ≤ (↑es.length : Int) ∧ es.length ≤ (2000 : Nat) ∧ (0 : Int) ≤ (↑q : Int) ∧ (↑q : Int) < (↑ts.length : Int) ∧ ts.length ≤ (1000 : Nat) ∧ (↑(out ++ [AV.int IntKind.i64 (IntKind.i64.wrap ((IntKind.i64.wrap ((1000 : Int) * IntKind.i64.wrap ((jOf (es.getD i AV.unk)) * IntKind.i64.wrap (G + (1 : Int))))).tdiv (IntKind.i64.wrap (IntKind.i64.wrap ((jOf (es.getD i AV.unk)) * IntKind.i64.wrap (G + (1 : Int))) + IntKind.i64.wrap ((gOf (es.getD i AV.unk)) * IntKind.i64.wrap (J + (1 : Int)))))))]).length : Int) ≤ (2000 : Int) * (↑q : Int) + IntKind.i64.wrap ((↑i : Int) + (1 : Int))) && nzD G J es then k (Ex.exit (2 : Nat)) [AV.slv Sh.str ts, AV.ptr (0 : Nat) (0 : Nat), AV.int IntKind.i64 z, AV.own (900 : Nat), AV.int IntKind.i64 (↑q : Int), AV.int IntKind.i64 (↑es.length : Int)] [some (Row.box false [AV.int IntKind.i64 G, AV.int IntKind.i64 J, AV.slv (Sh.agg [Sh.str, Sh.int IntKind.i64, Sh.int IntKind.i64]) es]), some (Row.arr false (Sh.int IntKind.i64) (3 : Nat) (out ++ [AV.int IntKind.i64 (IntKind.i64.wrap ((IntKind.i64.wrap ((1000 : Int) * IntKind.i64.wrap ((jOf (es.getD i AV.unk)) * IntKind.i64.wrap (G + (1 : Int))))).tdiv (IntKind.i64.wrap (IntKind.i64.wrap ((jOf (es.getD i AV.unk)) * IntKind.i64.wrap (G + (1 : Int))) + IntKind.i64.wrap ((gOf (es.getD i AV.unk)) * IntKind.i64.wrap (J + (1 : Int)))))))] ++ rowT G J (List.drop (IntKind.i64.wrap ((↑i : Int) + (1 : Int))).toNat es) (xOf (ts.getD q AV.unk))) none)] else none else none else none else none else none else bif decide (((↑es.length : Int) - IntKind.i64.wrap ((↑i : Int) + (1 : Int))).toNat < ((↑es.length : Int) - (↑i : Int)).toNat) then bif decide ((0 : Int) ≤ IntKind.i64.wrap ((↑i : Int) + (1 : Int)) ∧ IntKind.i64.wrap ((↑i : Int) + (1 : Int)) ≤ (↑es.length : Int) ∧ es.length ≤ (2000 : Nat) ∧ (0 : Int) ≤ (↑q : Int) ∧ (↑q : Int) < (↑ts.length : Int) ∧ ts.length ≤ (1000 : Nat) ∧ (↑out.length : Int) ≤ (2000 : Int) * (↑q : Int) + IntKind.i64.wrap ((↑i : Int) + (1 : Int))) && nzD G J es then k (Ex.exit (2 : Nat)) [AV.slv Sh.str ts, AV.ptr (0 : Nat) (0 : Nat), AV.int IntKind.i64 z, AV.own (900 : Nat), AV.int IntKind.i64 (↑q : Int), AV.int IntKind.i64 (↑es.length : Int)] [some (Row.box false [AV.int IntKind.i64 G, AV.int IntKind.i64 J, AV.slv (Sh.agg [Sh.str, Sh.int IntKind.i64, Sh.int IntKind.i64]) es]), some (Row.arr false (Sh.int IntKind.i64) (3 : Nat) (out ++ rowT G J (List.drop (IntKind.i64.wrap ((↑i : Int) + (1 : Int))).toNat es) (xOf (ts.getD q AV.unk))) none)] else none else none else none else none else k (Ex.exit (2 : Nat)) [AV.slv Sh.str ts, AV.ptr (0 : Nat) (0 : Nat), AV.int IntKind.i64 z, AV.own (900 : Nat), AV.int IntKind.i64 (↑q : Int), AV.int IntKind.i64 (↑i : Int)] [some (Row.box false [AV.int IntKind.i64 G, AV.int IntKind.i64 J, AV.slv (Sh.agg [Sh.str, Sh.int IntKind.i64, Sh.int IntKind.i64]) es]), some (Row.arr false (Sh.int IntKind.i64) (3 : Nat) out none)]) (by kernel_rfl) ?_
    rw [← hk]
    by_cases hlt : i < es.length
    · have w1 : IntKind.i64.wrap ((i : Int) + 1) = ((i + 1 : Nat) : Int) := by rw [wrap_mid _ (by omega) (by omega)]; omega
      have hz : ¬ (ratD G J (es.getD i .unk) = 0) := by
        have := List.all_eq_true.1 hnz _ (by rw [getD_eq hlt]; exact List.getElem_mem hlt : es.getD i .unk ∈ es)
        simpa using this
      rw [w1, Int.toNat_natCast, drop_getD hlt]
      cases he : xOf (es.getD i .unk) == xOf (ts.getD q .unk)
      · have hr : rowT G J (es.getD i .unk :: es.drop (i + 1)) (xOf (ts.getD q .unk)) = rowT G J (es.drop (i + 1)) (xOf (ts.getD q .unk)) := by
          unfold rowT; rw [List.filter_cons, he]; rfl
        rw [hr]
        refine Eq.trans (cond_t (decide_eq_true (by omega))) (Eq.trans (cond_t (inb_true (by omega) (by omega))) (Eq.trans (cond_t (inb_true (by omega) (by omega))) (Eq.trans (cond_f rfl) (Eq.trans (cond_t (decide_eq_true (by omega))) (Eq.trans (cond_t (and_t (decide_eq_true (by omega)) hnz)) ?_)))))
        rfl
      · have hr : rowT G J (es.getD i .unk :: es.drop (i + 1)) (xOf (ts.getD q .unk)) = .int .i64 (ratW G J (es.getD i .unk)) :: rowT G J (es.drop (i + 1)) (xOf (ts.getD q .unk)) := by
          unfold rowT; rw [List.filter_cons, he]; rfl
        rw [hr]
        refine Eq.trans (cond_t (decide_eq_true (by omega))) (Eq.trans (cond_t (inb_true (by omega) (by omega))) (Eq.trans (cond_t (inb_true (by omega) (by omega))) (Eq.trans (cond_t rfl) (Eq.trans (cond_t (inb_true (by omega) (by omega))) (Eq.trans (cond_t (inb_true (by omega) (by omega))) (Eq.trans (cond_f (decide_eq_false hz)) (Eq.trans (cond_t (roomB_small (by simp only [List.length_cons, List.length_nil]; omega) by3)) (Eq.trans (cond_t (decide_eq_true (by omega))) (Eq.trans (cond_t (and_t (decide_eq_true (by simp only [List.length_append, List.length_cons, List.length_nil]; omega)) hnz)) ?_)))))))))
        rw [List.append_assoc]
        rfl
    · obtain rfl : i = es.length := by omega
      rw [decide_eq_false (by omega), List.drop_length, show rowT G J [] (xOf (ts.getD q .unk)) = [] from rfl, List.append_nil]
      rfl
  · cases h
theorem loopL11 : LoopOK Try.prog G1 K11 (lp11 0) l11 := by
  refine loopT g1.natOK rfl (KOK.one (b := lp11 1) (by kernel_rfl) (by kernel_rfl) loopM11) μ11 (fun ρ vs rs k r h => ?_)
  unfold L11 at h
  split at h
  · rename_i ts z q' G J es out
    obtain ⟨hc, hk⟩ := gd_some h
    clear h
    simp only [Bool.and_eq_true] at hc
    obtain ⟨hc, hnz⟩ := hc
    obtain ⟨c1, c2, c3, c4, c5⟩ := of_decide_eq_true hc
    obtain ⟨q, rfl⟩ : ∃ i : Nat, q' = i := ⟨q'.toNat, by omega⟩
    simp only [Int.toNat_natCast] at hk
    refine Eq.trans (b := bif decide ((↑q : Int) < (↑ts.length : Int)) then bif decide ((0 : Int) ≤ (0 : Int) ∧ (0 : Int) ≤ (↑es.length : Int) ∧ es.length ≤ (2000 : Nat) ∧ (0 : Int) ≤ (↑q : Int) ∧ (↑q : Int) < (↑ts.length : Int) ∧ ts.length ≤ (1000 : Nat) ∧ (↑out.length : Int) ≤ (2000 : Int) * (↑q : Int) + (0 : Int)) && nzD G J es then bif decide (((↑ts.length : Int) - IntKind.i64.wrap ((↑q : Int) + (1 : Int))).toNat < ((↑ts.length : Int) - (↑q : Int)).toNat) then bif decide (es.length ≤ (2000 : Nat) ∧ (0 : Int) ≤ IntKind.i64.wrap ((↑q : Int) + (1 : Int)) ∧ IntKind.i64.wrap ((↑q : Int) + (1 : Int)) ≤ (↑ts.length : Int) ∧ ts.length ≤ (1000 : Nat) ∧ (↑(out ++ rowT G J (List.drop (0 : Nat) es) (xOf (ts.getD q AV.unk))).length : Int) ≤ (2000 : Int) * IntKind.i64.wrap ((↑q : Int) + (1 : Int))) && nzD G J es then k (Ex.exit (0 : Nat)) [AV.slv Sh.str ts, AV.ptr (0 : Nat) (0 : Nat), AV.int IntKind.i64 z, AV.own (900 : Nat), AV.int IntKind.i64 (↑ts.length : Int)] [some (Row.box false [AV.int IntKind.i64 G, AV.int IntKind.i64 J, AV.slv (Sh.agg [Sh.str, Sh.int IntKind.i64, Sh.int IntKind.i64]) es]), some (Row.arr false (Sh.int IntKind.i64) (3 : Nat) (out ++ rowT G J (List.drop (0 : Nat) es) (xOf (ts.getD q AV.unk)) ++ List.flatMap (fun t => rowT G J es (xOf t)) (List.drop (IntKind.i64.wrap ((↑q : Int) + (1 : Int))).toNat ts)) none)] else none else none else none else k (Ex.exit (0 : Nat)) [AV.slv Sh.str ts, AV.ptr (0 : Nat) (0 : Nat), AV.int IntKind.i64 z, AV.own (900 : Nat), AV.int IntKind.i64 (↑q : Int)] [some (Row.box false [AV.int IntKind.i64 G, AV.int IntKind.i64 J, AV.slv (Sh.agg [Sh.str, Sh.int IntKind.i64, Sh.int IntKind.i64]) es]), some (Row.arr false (Sh.int IntKind.i64) (3 : Nat) out none)]) (by kernel_rfl) ?_
    rw [← hk]
    by_cases hlt : q < ts.length
    · have w1 : IntKind.i64.wrap ((q : Int) + 1) = ((q + 1 : Nat) : Int) := by rw [wrap_mid _ (by omega) (by omega)]; omega
      have hlen : (rowT G J es (xOf (ts.getD q .unk))).length ≤ es.length := by unfold rowT; rw [List.length_map]; exact List.length_filter_le _ _
      rw [w1, Int.toNat_natCast, drop_getD hlt, List.flatMap_cons, List.drop_zero]
      refine Eq.trans (cond_t (decide_eq_true (by omega))) (Eq.trans (cond_t (and_t (decide_eq_true (by omega)) hnz)) (Eq.trans (cond_t (decide_eq_true (by omega))) (Eq.trans (cond_t (and_t (decide_eq_true (by rw [List.length_append]; omega)) hnz)) ?_)))
      rw [List.append_assoc]
      rfl
    · obtain rfl : q = ts.length := by omega
      rw [decide_eq_false (by omega), List.drop_length, List.flatMap_nil, List.append_nil]
      rfl
  · cases h
theorem loopQ11 : LoopOK Try.prog G1 K11 (lp11 3) q11 := by
  refine loopT g1.natOK rfl (KOK.nil (by kernel_rfl)) μ11 (fun ρ vs rs k r h => ?_)
  unfold Q11 at h
  split at h
  · rename_i z s n x b i' tk es
    obtain ⟨hc, hk⟩ := gd_some h
    clear h
    simp only [Bool.and_eq_true] at hc
    obtain ⟨hc, hok⟩ := hc
    obtain ⟨c1, c2, c3, c4, c5, c6⟩ := of_decide_eq_true hc
    obtain ⟨i, rfl⟩ : ∃ i : Nat, i' = i := ⟨i'.toNat, by omega⟩
    simp only [Int.toNat_natCast] at hk
    refine Eq.trans (b := bif decide ((↑i : Int) < (↑es.length : Int)) then bif inb (↑i : Int) tk.length then bif decide (i < tk.length) then bif !((tk.getD i AV.unk).cells.headD AV.unk).toBool then bif decide (b < (0 : Int)) then bif decide (((↑es.length : Int) - IntKind.i64.wrap ((↑i : Int) + (1 : Int))).toNat < ((↑es.length : Int) - (↑i : Int)).toNat) then bif decide ((0 : Int) ≤ IntKind.i64.wrap ((↑i : Int) + (1 : Int)) ∧ IntKind.i64.wrap ((↑i : Int) + (1 : Int)) ≤ (↑es.length : Int) ∧ es.length ≤ (1000 : Nat) ∧ tk.length = es.length ∧ (-1 : Int) ≤ (↑i : Int) ∧ (↑i : Int) < (↑es.length : Int)) && okL es then k (Ex.exit (6 : Nat)) [AV.int IntKind.i64 z, AV.own (900 : Nat), AV.own (770 : Nat), AV.int IntKind.i64 s, AV.int IntKind.i64 n, AV.int IntKind.i64 x, AV.int IntKind.i64 (bstN es tk (es.length - (IntKind.i64.wrap ((↑i : Int) + (1 : Int))).toNat) (IntKind.i64.wrap ((↑i : Int) + (1 : Int))).toNat (↑i : Int)), AV.int IntKind.i64 (↑es.length : Int)] [some (Row.arr false Sh.bool (4 : Nat) tk none), some (Row.arr false (Sh.int IntKind.i64) (3 : Nat) es none)] else none else none else bif inb (↑i : Int) es.length then bif decide (i < es.length) then bif inb (↑i : Int) es.length then bif decide (i < es.length) then bif inb b es.length then bif decide (b.toNat < es.length) then bif inb b es.length then bif decide (b.toNat < es.length) then bif decide ((if IntKind.i64.wrap ((500 : Int) - (iv (es.getD i AV.unk))) > IntKind.i64.wrap ((iv (es.getD i AV.unk)) - (500 : Int)) then IntKind.i64.wrap ((500 : Int) - (iv (es.getD i AV.unk))) else IntKind.i64.wrap ((iv (es.getD i AV.unk)) - (500 : Int))) > if IntKind.i64.wrap ((500 : Int) - (iv (es.getD b.toNat AV.unk))) > IntKind.i64.wrap ((iv (es.getD b.toNat AV.unk)) - (500 : Int)) then IntKind.i64.wrap ((500 : Int) - (iv (es.getD b.toNat AV.unk))) else IntKind.i64.wrap ((iv (es.getD b.toNat AV.unk)) - (500 : Int))) then bif decide (((↑es.length : Int) - IntKind.i64.wrap ((↑i : Int) + (1 : Int))).toNat < ((↑es.length : Int) - (↑i : Int)).toNat) then bif decide ((0 : Int) ≤ IntKind.i64.wrap ((↑i : Int) + (1 : Int)) ∧ IntKind.i64.wrap ((↑i : Int) + (1 : Int)) ≤ (↑es.length : Int) ∧ es.length ≤ (1000 : Nat) ∧ tk.length = es.length ∧ (-1 : Int) ≤ (↑i : Int) ∧ (↑i : Int) < (↑es.length : Int)) && okL es then k (Ex.exit (6 : Nat)) [AV.int IntKind.i64 z, AV.own (900 : Nat), AV.own (770 : Nat), AV.int IntKind.i64 s, AV.int IntKind.i64 n, AV.int IntKind.i64 x, AV.int IntKind.i64 (bstN es tk (es.length - (IntKind.i64.wrap ((↑i : Int) + (1 : Int))).toNat) (IntKind.i64.wrap ((↑i : Int) + (1 : Int))).toNat (↑i : Int)), AV.int IntKind.i64 (↑es.length : Int)] [some (Row.arr false Sh.bool (4 : Nat) tk none), some (Row.arr false (Sh.int IntKind.i64) (3 : Nat) es none)] else none else none else bif decide (((↑es.length : Int) - IntKind.i64.wrap ((↑i : Int) + (1 : Int))).toNat < ((↑es.length : Int) - (↑i : Int)).toNat) then bif decide ((0 : Int) ≤ IntKind.i64.wrap ((↑i : Int) + (1 : Int)) ∧ IntKind.i64.wrap ((↑i : Int) + (1 : Int)) ≤ (↑es.length : Int) ∧ es.length ≤ (1000 : Nat) ∧ tk.length = es.length ∧ (-1 : Int) ≤ b ∧ b < (↑es.length : Int)) && okL es then k (Ex.exit (6 : Nat)) [AV.int IntKind.i64 z, AV.own (900 : Nat), AV.own (770 : Nat), AV.int IntKind.i64 s, AV.int IntKind.i64 n, AV.int IntKind.i64 x, AV.int IntKind.i64 (bstN es tk (es.length - (IntKind.i64.wrap ((↑i : Int) + (1 : Int))).toNat) (IntKind.i64.wrap ((↑i : Int) + (1 : Int))).toNat b), AV.int IntKind.i64 (↑es.length : Int)] [some (Row.arr false Sh.bool (4 : Nat) tk none), some (Row.arr false (Sh.int IntKind.i64) (3 : Nat) es none)] else none else none else none else none else none else none else none else none else none else none else bif decide (((↑es.length : Int) - IntKind.i64.wrap ((↑i : Int) + (1 : Int))).toNat < ((↑es.length : Int) - (↑i : Int)).toNat) then bif decide ((0 : Int) ≤ IntKind.i64.wrap ((↑i : Int) + (1 : Int)) ∧ IntKind.i64.wrap ((↑i : Int) + (1 : Int)) ≤ (↑es.length : Int) ∧ es.length ≤ (1000 : Nat) ∧ tk.length = es.length ∧ (-1 : Int) ≤ b ∧ b < (↑es.length : Int)) && okL es then k (Ex.exit (6 : Nat)) [AV.int IntKind.i64 z, AV.own (900 : Nat), AV.own (770 : Nat), AV.int IntKind.i64 s, AV.int IntKind.i64 n, AV.int IntKind.i64 x, AV.int IntKind.i64 (bstN es tk (es.length - (IntKind.i64.wrap ((↑i : Int) + (1 : Int))).toNat) (IntKind.i64.wrap ((↑i : Int) + (1 : Int))).toNat b), AV.int IntKind.i64 (↑es.length : Int)] [some (Row.arr false Sh.bool (4 : Nat) tk none), some (Row.arr false (Sh.int IntKind.i64) (3 : Nat) es none)] else none else none else none else none else k (Ex.exit (6 : Nat)) [AV.int IntKind.i64 z, AV.own (900 : Nat), AV.own (770 : Nat), AV.int IntKind.i64 s, AV.int IntKind.i64 n, AV.int IntKind.i64 x, AV.int IntKind.i64 b, AV.int IntKind.i64 (↑i : Int)] [some (Row.arr false Sh.bool (4 : Nat) tk none), some (Row.arr false (Sh.int IntKind.i64) (3 : Nat) es none)]) (by kernel_rfl) ?_
    rw [← hk]
    by_cases hlt : i < es.length
    · obtain ⟨n, hn⟩ : ∃ n, es.length - i = n + 1 := ⟨es.length - i - 1, by omega⟩
      have hn2 : es.length - (i + 1) = n := by omega
      have w1 : IntKind.i64.wrap ((i : Int) + 1) = ((i + 1 : Nat) : Int) := by rw [wrap_mid _ (by omega) (by omega)]; omega
      obtain ⟨v0, v1⟩ := inR_spec (okE_r (okL_get hok hlt))
      rw [w1, Int.toNat_natCast, hn, bstN_succ, hn2]
      have ht : tkB tk i = ((tk.getD i .unk).cells.headD .unk).toBool := rfl
      rw [← ht]
      cases htk : tkB tk i
      · by_cases hb : b < 0
        · rw [decide_eq_true hb]
          repeat (first | refine Eq.trans (cond_t (by first | with_reducible rfl | exact Bool.not_false | assumption | exact decide_eq_true (by omega) | exact inb_true (by omega) (by omega))) ?_ | refine Eq.trans (cond_f (by first | with_reducible rfl | exact Bool.not_true | assumption | exact decide_eq_false (by omega))) ?_)
          refine Eq.trans (cond_t (and_t (decide_eq_true (by omega)) hok)) ?_
          rfl
        · have hbl : b.toNat < es.length := by omega
          obtain ⟨u0, u1⟩ := inR_spec (okE_r (okL_get hok hbl))
          have e1 := wrap_mid (iv (es.getD i .unk) - 500) (by omega) (by omega)
          have e2 := wrap_mid (500 - iv (es.getD i .unk)) (by omega) (by omega)
          have e3 := wrap_mid (iv (es.getD b.toNat .unk) - 500) (by omega) (by omega)
          have e4 := wrap_mid (500 - iv (es.getD b.toNat .unk)) (by omega) (by omega)
          have hd : decide ((if IntKind.i64.wrap (500 - iv (es.getD i .unk)) > IntKind.i64.wrap (iv (es.getD i .unk) - 500) then IntKind.i64.wrap (500 - iv (es.getD i .unk)) else IntKind.i64.wrap (iv (es.getD i .unk) - 500)) > if IntKind.i64.wrap (500 - iv (es.getD b.toNat .unk)) > IntKind.i64.wrap (iv (es.getD b.toNat .unk) - 500) then IntKind.i64.wrap (500 - iv (es.getD b.toNat .unk)) else IntKind.i64.wrap (iv (es.getD b.toNat .unk) - 500)) = decide (dst (es.getD i .unk) > dst (es.getD b.toNat .unk)) := by
            refine decide_eq_decide.2 ?_
            rw [e1, e2, e3, e4, max_if, max_if]
            rfl
          rw [decide_eq_false hb, Bool.false_or]
          rw [hd]
          cases hg : decide (dst (es.getD i .unk) > dst (es.getD b.toNat .unk))
          · repeat (first | refine Eq.trans (cond_t (by first | with_reducible rfl | exact Bool.not_false | assumption | exact decide_eq_true (by omega) | exact inb_true (by omega) (by omega))) ?_ | refine Eq.trans (cond_f (by first | with_reducible rfl | exact Bool.not_true | assumption | exact decide_eq_false (by omega))) ?_)
            refine Eq.trans (cond_t (and_t (decide_eq_true (by omega)) hok)) ?_
            rfl
          · repeat (first | refine Eq.trans (cond_t (by first | with_reducible rfl | exact Bool.not_false | assumption | exact decide_eq_true (by omega) | exact inb_true (by omega) (by omega))) ?_ | refine Eq.trans (cond_f (by first | with_reducible rfl | exact Bool.not_true | assumption | exact decide_eq_false (by omega))) ?_)
            refine Eq.trans (cond_t (and_t (decide_eq_true (by omega)) hok)) ?_
            rfl
      · repeat (first | refine Eq.trans (cond_t (by first | with_reducible rfl | exact Bool.not_false | assumption | exact decide_eq_true (by omega) | exact inb_true (by omega) (by omega))) ?_ | refine Eq.trans (cond_f (by first | with_reducible rfl | exact Bool.not_true | assumption | exact decide_eq_false (by omega))) ?_)
        refine Eq.trans (cond_t (and_t (decide_eq_true (by omega)) hok)) ?_
        rfl
    · obtain rfl : i = es.length := by omega
      rw [decide_eq_false (by omega), Nat.sub_self]
      rfl
  · cases h
theorem loopP11 : LoopOK Try.prog G1 K11 (lp11 2) p11 := by
  refine loopT g1.natOK rfl (KOK.one (b := lp11 3) (by kernel_rfl) (by kernel_rfl) loopQ11) μ11 (fun ρ vs rs k r h => ?_)
  unfold P11 at h
  split at h
  · rename_i z s n' x' tk es
    obtain ⟨hc, hk⟩ := gd_some h
    clear h
    simp only [Bool.and_eq_true] at hc
    obtain ⟨hc, hok⟩ := hc
    obtain ⟨c1, c2, c3, c4, c5, c6, c7, c8⟩ := of_decide_eq_true hc
    obtain ⟨x, rfl⟩ : ∃ i : Nat, x' = i := ⟨x'.toNat, by omega⟩
    obtain ⟨n, rfl⟩ : ∃ i : Nat, n' = i := ⟨n'.toNat, by omega⟩
    refine Eq.trans (b := bif decide ((↑x : Int) < (↑n : Int)) then bif decide ((0 : Int) ≤ (0 : Int) ∧ (0 : Int) ≤ (↑es.length : Int) ∧ es.length ≤ (1000 : Nat) ∧ tk.length = es.length ∧ (-1 : Int) ≤ (-1 : Int) ∧ (-1 : Int) < (↑es.length : Int)) && okL es then bif inb (bstN es tk (es.length - Int.toNat (0 : Int)) (0 : Nat) (-1 : Int)) tk.length then bif decide ((bstN es tk (es.length - Int.toNat (0 : Int)) (0 : Nat) (-1 : Int)).toNat < tk.length) then bif inb (bstN es tk (es.length - Int.toNat (0 : Int)) (0 : Nat) (-1 : Int)) es.length then bif decide ((bstN es tk (es.length - Int.toNat (0 : Int)) (0 : Nat) (-1 : Int)).toNat < es.length) then bif decide (((↑n : Int) - IntKind.i64.wrap ((↑x : Int) + (1 : Int))).toNat < ((↑n : Int) - (↑x : Int)).toNat) then bif decide ((0 : Int) ≤ IntKind.i64.wrap ((↑x : Int) + (1 : Int)) ∧ IntKind.i64.wrap ((↑x : Int) + (1 : Int)) ≤ (↑n : Int) ∧ (↑n : Int) ≤ (15 : Int) ∧ es.length ≤ (1000 : Nat) ∧ (tk.set (bstN es tk (es.length - Int.toNat (0 : Int)) (0 : Nat) (-1 : Int)).toNat (mkAV Sh.bool [AV.bool true])).length = es.length ∧ (0 : Int) ≤ IntKind.i64.wrap (s + (iv (es.getD (bstN es tk (es.length - Int.toNat (0 : Int)) (0 : Nat) (-1 : Int)).toNat AV.unk))) ∧ IntKind.i64.wrap (s + (iv (es.getD (bstN es tk (es.length - Int.toNat (0 : Int)) (0 : Nat) (-1 : Int)).toNat AV.unk))) ≤ (1000 : Int) * IntKind.i64.wrap ((↑x : Int) + (1 : Int)) ∧ (↑n : Int) - IntKind.i64.wrap ((↑x : Int) + (1 : Int)) ≤ (↑(remL es (tk.set (bstN es tk (es.length - Int.toNat (0 : Int)) (0 : Nat) (-1 : Int)).toNat (mkAV Sh.bool [AV.bool true]))).length : Int)) && okL es then k (Ex.exit (4 : Nat)) [AV.int IntKind.i64 z, AV.own (900 : Nat), AV.own (770 : Nat), AV.int IntKind.i64 (pkN es ((↑n : Int) - IntKind.i64.wrap ((↑x : Int) + (1 : Int))).toNat (tk.set (bstN es tk (es.length - Int.toNat (0 : Int)) (0 : Nat) (-1 : Int)).toNat (mkAV Sh.bool [AV.bool true])) (IntKind.i64.wrap (s + (iv (es.getD (bstN es tk (es.length - Int.toNat (0 : Int)) (0 : Nat) (-1 : Int)).toNat AV.unk))))).fst, AV.int IntKind.i64 (↑n : Int), AV.int IntKind.i64 (↑n : Int)] [some (Row.arr false Sh.bool (4 : Nat) (pkN es ((↑n : Int) - IntKind.i64.wrap ((↑x : Int) + (1 : Int))).toNat (tk.set (bstN es tk (es.length - Int.toNat (0 : Int)) (0 : Nat) (-1 : Int)).toNat (mkAV Sh.bool [AV.bool true])) (IntKind.i64.wrap (s + (iv (es.getD (bstN es tk (es.length - Int.toNat (0 : Int)) (0 : Nat) (-1 : Int)).toNat AV.unk))))).snd none), some (Row.arr false (Sh.int IntKind.i64) (3 : Nat) es none)] else none else none else none else none else none else none else none else k (Ex.exit (4 : Nat)) [AV.int IntKind.i64 z, AV.own (900 : Nat), AV.own (770 : Nat), AV.int IntKind.i64 s, AV.int IntKind.i64 (↑n : Int), AV.int IntKind.i64 (↑x : Int)] [some (Row.arr false Sh.bool (4 : Nat) tk none), some (Row.arr false (Sh.int IntKind.i64) (3 : Nat) es none)]) (by kernel_rfl) ?_
    rw [← hk]
    by_cases hlt : x < n
    · obtain ⟨m, hm⟩ : ∃ m : Nat, ((n : Int) - (x : Int)).toNat = m + 1 := ⟨n - x - 1, by omega⟩
      have hm2 : ((n : Int) - ((x + 1 : Nat) : Int)).toNat = m := by omega
      have w1 : IntKind.i64.wrap ((x : Int) + 1) = ((x + 1 : Nat) : Int) := by rw [wrap_mid _ (by omega) (by omega)]; omega
      have hne : remL es tk ≠ [] := fun h => by rw [h] at c8; simp at c8; omega
      obtain ⟨b0, b1, b2, b3⟩ := best_rem c5 hne
      have hz : es.length - Int.toNat 0 = es.length := Nat.sub_zero _
      rw [hm, pkN_succ, w1, hm2, hz]
      generalize bstN es tk es.length 0 (-1) = b at b0 b1 b2 b3
      have hbl : b.toNat < es.length := by omega
      obtain ⟨v0, v1⟩ := inR_spec (okE_r (okL_get hok hbl))
      have w2 : IntKind.i64.wrap (s + iv (es.getD b.toNat .unk)) = s + iv (es.getD b.toNat .unk) := wrap_mid _ (by omega) (by omega)
      have hmk : mkAV Sh.bool [AV.bool true] = AV.bool true := rfl
      have hls : (tk.set b.toNat (AV.bool true)).length = es.length := by rw [List.length_set]; exact c5
      rw [w2, hmk]
      refine Eq.trans (cond_t (decide_eq_true (by omega))) (Eq.trans (cond_t (and_t (decide_eq_true (by omega)) hok)) (Eq.trans (cond_t (inb_true (by omega) (by omega))) (Eq.trans (cond_t (decide_eq_true (by omega))) (Eq.trans (cond_t (inb_true (by omega) (by omega))) (Eq.trans (cond_t (decide_eq_true (by omega))) (Eq.trans (cond_t (decide_eq_true (by omega))) (Eq.trans (cond_t (and_t (decide_eq_true (by omega)) hok)) ?_)))))))
      rfl
    · obtain rfl : x = n := by omega
      rw [decide_eq_false (by omega), show ((x : Int) - (x : Int)).toNat = 0 from by omega]
      rfl
  · cases h
theorem rem_all : ∀ es : List AV, remL es (List.replicate es.length (.bool false)) = es
  | [] => rfl
  | e :: es => by
    show (bif tkV (.bool false) then remL es (List.replicate es.length (.bool false)) else e :: remL es (List.replicate es.length (.bool false))) = _
    rw [rem_all es]
    rfl
def FS11 : List AV → Tr AV
  | [.agg [.int .i64 G, .int .i64 J, .slv (.agg [.str, .int .i64, .int .i64]) es], .slv .str ts] => .gd (decide (es.length ≤ 2000 ∧ ts.length ≤ 1000) && (nzD G J es && (decide ((ts.flatMap fun t => rowT G J es (xOf t)).length ≤ 1000) && okL (ts.flatMap fun t => rowT G J es (xOf t))))) (.leaf (.int .i64 (avgL (ts.flatMap fun t => rowT G J es (xOf t)))))
  | _ => .no
theorem okS11 : SumOK Try.prog 11 (ofT FS11) ∧ SNat (ofT FS11) := by
  refine fnT (K := K11) (bs := [lp11 0, lp11 1, lp11 2, lp11 3]) g1 Try.func11 (by kernel_rfl) (fun b hb => ?_) fun ρ avs k r h => ?_
  · rcases List.mem_cons.1 hb with rfl | hb
    · exact ⟨l11, by kernel_rfl, loopL11⟩
    · rcases List.mem_cons.1 hb with rfl | hb
      · exact ⟨m11, by kernel_rfl, loopM11⟩
      · rcases List.mem_cons.1 hb with rfl | hb
        · exact ⟨p11, by kernel_rfl, loopP11⟩
        · rcases List.mem_cons.1 hb with rfl | hb
          · exact ⟨q11, by kernel_rfl, loopQ11⟩
          · cases hb
  unfold FS11 at h
  split at h
  · rename_i G J es ts
    obtain ⟨hc, hk⟩ := gd_some h
    simp only [Bool.and_eq_true] at hc
    obtain ⟨hc, hnz, hl, hok⟩ := hc
    obtain ⟨c1, c2⟩ := of_decide_eq_true hc
    have hl := of_decide_eq_true hl
    refine Eq.trans (b := bif decide (es.length ≤ (2000 : Nat) ∧ (0 : Int) ≤ (0 : Int) ∧ (0 : Int) ≤ (↑ts.length : Int) ∧ ts.length ≤ (1000 : Nat) ∧ (↑([] : List AV).length : Int) ≤ (2000 : Int) * (0 : Int)) && nzD G J es then bif (↑([] ++ List.flatMap (fun t => rowT G J es (xOf t)) (List.drop (0 : Nat) ts)).length : Int) == (↑([] ++ List.flatMap (fun t => rowT G J es (xOf t)) (List.drop (0 : Nat) ts)).length : Int) && (decide ((0 : Int) ≤ (↑([] ++ List.flatMap (fun t => rowT G J es (xOf t)) (List.drop (0 : Nat) ts)).length : Int)) && roomB (↑([] ++ List.flatMap (fun t => rowT G J es (xOf t)) (List.drop (0 : Nat) ts)).length : Int).toNat (Try.prog.bytesOf (4 : Nat))) then bif decide ((0 : Int) ≤ (0 : Int) ∧ ((0 : Int) ≤ if (15 : Int) < (↑([] ++ List.flatMap (fun t => rowT G J es (xOf t)) (List.drop (0 : Nat) ts)).length : Int) then (15 : Int) else (↑([] ++ List.flatMap (fun t => rowT G J es (xOf t)) (List.drop (0 : Nat) ts)).length : Int)) ∧ (if (15 : Int) < (↑([] ++ List.flatMap (fun t => rowT G J es (xOf t)) (List.drop (0 : Nat) ts)).length : Int) then (15 : Int) else (↑([] ++ List.flatMap (fun t => rowT G J es (xOf t)) (List.drop (0 : Nat) ts)).length : Int)) ≤ (15 : Int) ∧ ([] ++ List.flatMap (fun t => rowT G J es (xOf t)) (List.drop (0 : Nat) ts)).length ≤ (1000 : Nat) ∧ (List.replicate (↑([] ++ List.flatMap (fun t => rowT G J es (xOf t)) (List.drop (0 : Nat) ts)).length : Int).toNat (zeroE Try.prog (4 : Nat))).length = ([] ++ List.flatMap (fun t => rowT G J es (xOf t)) (List.drop (0 : Nat) ts)).length ∧ (0 : Int) ≤ (0 : Int) ∧ (0 : Int) ≤ (1000 : Int) * (0 : Int) ∧ (if (15 : Int) < (↑([] ++ List.flatMap (fun t => rowT G J es (xOf t)) (List.drop (0 : Nat) ts)).length : Int) then (15 : Int) else (↑([] ++ List.flatMap (fun t => rowT G J es (xOf t)) (List.drop (0 : Nat) ts)).length : Int)) - (0 : Int) ≤ (↑(remL ([] ++ List.flatMap (fun t => rowT G J es (xOf t)) (List.drop (0 : Nat) ts)) (List.replicate (↑([] ++ List.flatMap (fun t => rowT G J es (xOf t)) (List.drop (0 : Nat) ts)).length : Int).toNat (zeroE Try.prog (4 : Nat)))).length : Int)) && okL ([] ++ List.flatMap (fun t => rowT G J es (xOf t)) (List.drop (0 : Nat) ts)) then bif (if (15 : Int) < (↑([] ++ List.flatMap (fun t => rowT G J es (xOf t)) (List.drop (0 : Nat) ts)).length : Int) then (15 : Int) else (↑([] ++ List.flatMap (fun t => rowT G J es (xOf t)) (List.drop (0 : Nat) ts)).length : Int)) == (0 : Int) then k (AV.int IntKind.i64 (500 : Int)) else bif decide ((if (15 : Int) < (↑([] ++ List.flatMap (fun t => rowT G J es (xOf t)) (List.drop (0 : Nat) ts)).length : Int) then (15 : Int) else (↑([] ++ List.flatMap (fun t => rowT G J es (xOf t)) (List.drop (0 : Nat) ts)).length : Int)) = (0 : Int)) then none else k (AV.int IntKind.i64 (IntKind.i64.wrap ((pkN ([] ++ List.flatMap (fun t => rowT G J es (xOf t)) (List.drop (0 : Nat) ts)) ((if (15 : Int) < (↑([] ++ List.flatMap (fun t => rowT G J es (xOf t)) (List.drop (0 : Nat) ts)).length : Int) then (15 : Int) else (↑([] ++ List.flatMap (fun t => rowT G J es (xOf t)) (List.drop (0 : Nat) ts)).length : Int)) - (0 : Int)).toNat (List.replicate (↑([] ++ List.flatMap (fun t => rowT G J es (xOf t)) (List.drop (0 : Nat) ts)).length : Int).toNat (zeroE Try.prog (4 : Nat))) (0 : Int)).fst.tdiv (if (15 : Int) < (↑([] ++ List.flatMap (fun t => rowT G J es (xOf t)) (List.drop (0 : Nat) ts)).length : Int) then (15 : Int) else (↑([] ++ List.flatMap (fun t => rowT G J es (xOf t)) (List.drop (0 : Nat) ts)).length : Int))))) else none else none else none) (by kernel_rfl) ?_
    have z4 : zeroE Try.prog 4 = .bool false := by kernel_rfl
    have by4 : Try.prog.bytesOf 4 ≤ 1000 := of_decide_eq_true (by kernel_rfl)
    rw [← hk, hnz, List.nil_append, List.drop_zero, z4]
    generalize (ts.flatMap fun t => rowT G J es (xOf t)) = l at hl hok
    rw [Int.toNat_natCast]
    have hX : (if (15 : Int) < (l.length : Int) then (15 : Int) else (l.length : Int)) = ((min l.length 15 : Nat) : Int) := by split <;> omega
    rw [hX, Int.sub_zero, Int.toNat_natCast]
    have hr : remL l (List.replicate l.length (.bool false)) = l := rem_all l
    have hpk := pk_eq (es := l) (min l.length 15) (List.replicate l.length (.bool false)) 0 (by rw [List.length_replicate]) (by rw [hr]; omega)
    rw [hr, Int.zero_add] at hpk
    rw [hpk, hr]
    refine Eq.trans (cond_t (and_t (decide_eq_true ⟨c1, by omega, by omega, c2, by simp⟩) rfl)) (Eq.trans (cond_t (and_t (by simp) (and_t (decide_eq_true (by omega)) (roomB_small (by omega) by4)))) (Eq.trans (cond_t (and_t (decide_eq_true ⟨by omega, by omega, by omega, by omega, by rw [List.length_replicate], by omega, by omega, by omega⟩) hok)) ?_))
    cases l with
    | nil => rfl
    | cons e r =>
      obtain ⟨a0, a1⟩ := avg_small hok (by simp)
      have h0 : (((min (e :: r).length 15 : Nat) : Int) == 0) = false := by
        have : ((min (e :: r).length 15 : Nat) : Int) ≠ 0 := by simp only [List.length_cons]; omega
        exact beq_eq_false_iff_ne.2 this
      rw [h0, decide_eq_false (by simp only [List.length_cons]; omega : ¬ ((min (e :: r).length 15 : Nat) : Int) = 0), wrap_mid _ (by omega) (by omega)]
      rfl
  · cases h
end Go.Proofs.Ytpgaobdgohlegaa
