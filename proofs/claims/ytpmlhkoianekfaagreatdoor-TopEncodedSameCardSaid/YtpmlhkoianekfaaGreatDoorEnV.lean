/-
  Plain: the document's lines of a field are those of the program.
-/
import Derived.Test.YtpmlhkoianekfaaGreatDoorEnO
import Derived.Test.YtpmlhkoianekfaaGreatDoorEnH

namespace Go.Proofs.YtpmlhkoianekfaaGreatDoor
open Go.Ev
noncomputable def G109 : Env := { pure := [(123, ofT F123)] }
theorem g109 : GOK Tryz.prog G109 := GOK.also g0 ok123
theorem hsC_len {es : List AV} {c : Int} (h : hsC es c = true) : 1 ≤ es.length := by
  unfold hsC Lib.hasSuffix at h
  have := (List.isSuffixOf_iff_suffix.1 h).length_le
  rw [strAV_len, strAV_len] at this
  exact this
def tsC (es : List AV) (c : Int) : List AV := bif hsC es c then es.take (es.length - 1) else es
def F109 : List AV → Tr AV
  | [.slv (.int .u8) es, .slv (.int .u8) [.int .u8 c]] => .gd (decide (es.length ≤ 9223372036854775807)) (.leaf (.slv (.int .u8) (tsC es c)))
  | _ => .no
theorem ok109 : SumOK Tryz.prog 109 (ofT F109) ∧ SNat (ofT F109) := by
  refine fn0 g109 Tryz.func109 (by kernel_rfl) fun ρ avs k r h => ?_
  unfold F109 at h
  split at h
  · rename_i es c
    obtain ⟨hc, hk⟩ := gd_some h
    have hn := of_decide_eq_true hc
    refine Eq.trans (b := bif decide (es.length ≤ (9223372036854775807 : Nat)) then bif hsC es c then bif slb (0 : Int) (IntKind.i64.wrap ((↑es.length : Int) - (↑[AV.int IntKind.u8 c].length : Int))) es.length then k (AV.slv (Sh.int IntKind.u8) (List.take ((IntKind.i64.wrap ((↑es.length : Int) - (↑[AV.int IntKind.u8 c].length : Int))).toNat - Int.toNat (0 : Int)) (List.drop (0 : Nat) es))) else none else k (AV.slv (Sh.int IntKind.u8) es) else none) (by kernel_rfl) ?_
    rw [← hk, hc]
    unfold tsC
    cases hh : hsC es c
    · rfl
    · have h1 := hsC_len hh
      have w : IntKind.i64.wrap ((es.length : Int) - (([AV.int .u8 c].length : Nat) : Int)) = ((es.length - 1 : Nat) : Int) := by
        rw [show (([AV.int .u8 c].length : Nat) : Int) = 1 from rfl, wrap_small _ (by omega) (by omega)]; omega
      rw [w]
      exact cond_t (slb_true (by omega) (by omega) (by omega))
  · cases h
theorem pL_len : ∀ (f : Nat) (r : List AV), (pL f r).length ≤ r.length
  | 0, _ => Nat.zero_le _
  | _ + 1, [] => Nat.le_refl _
  | f + 1, x :: t => by
    have h1 := pL_len f t
    have h2 := pL_len f (t.drop 2)
    rw [List.length_drop] at h2
    show (bif iE x == 61 && okS (strAV (t.take 2)) then AV.int .u8 (prS (strAV (t.take 2))) :: pL f (t.drop 2) else AV.int .u8 (iE x) :: pL f t).length ≤ _
    cases iE x == 61 && okS (strAV (t.take 2))
    · rw [cond_false, List.length_cons, List.length_cons]; omega
    · rw [cond_true, List.length_cons, List.length_cons]; omega
theorem pD_len (r : List AV) : (pD r).length ≤ r.length := pL_len _ _
def lnC (b : List AV) : List AV := b.take (Lib.trimRightS (strAV b) [32, 9]).length
theorem lnC_len (b : List AV) : (lnC b).length ≤ b.length := by unfold lnC; rw [List.length_take]; omega
def iQ (cs : List AV) : Nat := bif IntKind.i64.wrap (Lib.indexByte (strAV cs) 10 + 1) == 0 then cs.length else (IntKind.i64.wrap (Lib.indexByte (strAV cs) 10 + 1)).toNat
def lnB (cs : List AV) (i : Nat) : List AV := bif decide (((tsC (cs.take i) 10).length : Int) < i) then tsC (tsC (cs.take i) 10) 13 else tsC (cs.take i) 10
def outQ (cs : List AV) (i : Nat) (b : List AV) : List AV := bif hsC (lnC b) 61 then pD ((lnC b).take ((lnC b).length - 1)) else pD (lnC b) ++ (cs.drop b.length).take (i - b.length)
def qdL : Nat → List AV → List AV
  | 0, _ => []
  | f + 1, cs => bif decide (0 < cs.length) then outQ cs (iQ cs) (lnB cs (iQ cs)) ++ qdL f (cs.drop (iQ cs)) else []
theorem idx_cases (l : List UInt8) (c : UInt8) : Lib.indexByte l c = -1 ∨ ∃ o : Nat, Lib.indexByte l c = o ∧ o < l.length := by
  have hge := Lib.indexByte_ge l c
  by_cases h : Lib.indexByte l c = -1
  · exact .inl h
  · obtain ⟨o, ho⟩ : ∃ o : Nat, Lib.indexByte l c = o := ⟨(Lib.indexByte l c).toNat, by omega⟩
    refine .inr ⟨o, ho, ?_⟩
    obtain ⟨h1, _⟩ := Lib.indexByte_some ho
    exact (List.getElem?_eq_some_iff.1 h1).1
theorem iQ_rng {cs : List AV} (h : 0 < cs.length) (hs : cs.length ≤ 48000) : 1 ≤ iQ cs ∧ iQ cs ≤ cs.length := by
  unfold iQ
  rcases idx_cases (strAV cs) 10 with h1 | ⟨o, h1, h2⟩
  · rw [h1, show IntKind.i64.wrap (-1 + 1) = 0 from by decide]
    exact ⟨h, Nat.le_refl _⟩
  · rw [strAV_len] at h2
    rw [h1, wrap_small _ (by omega) (by omega)]
    have : (((o : Int) + 1) == 0) = false := by rw [Bool.eq_false_iff]; intro h; have := eq_of_beq h; omega
    rw [this, cond_false]
    omega
theorem qdL_fuel : ∀ (f g : Nat) (cs : List AV), cs.length ≤ 48000 → cs.length < f → cs.length < g → qdL f cs = qdL g cs
  | 0, _, _, _, h, _ => absurd h (Nat.not_lt_zero _)
  | _ + 1, 0, _, _, _, h => absurd h (Nat.not_lt_zero _)
  | f + 1, g + 1, cs, hs, hf, hg => by
    show (bif decide (0 < cs.length) then _ ++ qdL f (cs.drop (iQ cs)) else []) = (bif decide (0 < cs.length) then _ ++ qdL g (cs.drop (iQ cs)) else [])
    by_cases h : 0 < cs.length
    · have hi := iQ_rng h hs
      rw [qdL_fuel f g _ (by rw [List.length_drop]; omega) (by rw [List.length_drop]; omega) (by rw [List.length_drop]; omega)]
    · rw [decide_eq_false h]; rfl
def qD (cs : List AV) : List AV := qdL (cs.length + 1) cs
theorem qD_step {cs : List AV} (h : 0 < cs.length) (hs : cs.length ≤ 48000) : qD cs = outQ cs (iQ cs) (lnB cs (iQ cs)) ++ qD (cs.drop (iQ cs)) := by
  have hi := iQ_rng h hs
  unfold qD
  show (bif decide (0 < cs.length) then _ ++ qdL cs.length (cs.drop (iQ cs)) else []) = _
  rw [decide_eq_true h, cond_true, qdL_fuel cs.length ((cs.drop (iQ cs)).length + 1) _ (by rw [List.length_drop]; omega) (by rw [List.length_drop]; omega) (by omega)]
theorem all_take {es : List AV} (h : es.all bE = true) (n : Nat) : (es.take n).all bE = true := List.all_eq_true.2 fun x hx => List.all_eq_true.1 h x (List.mem_of_mem_take hx)
theorem all_drop {es : List AV} (h : es.all bE = true) (n : Nat) : (es.drop n).all bE = true := List.all_eq_true.2 fun x hx => List.all_eq_true.1 h x (List.mem_of_mem_drop hx)
theorem tsC_len (es : List AV) (c : Int) : (tsC es c).length ≤ es.length := by
  unfold tsC
  cases hsC es c
  · exact Nat.le_refl _
  · rw [cond_true, List.length_take]; omega
theorem tsC_all {es : List AV} (h : es.all bE = true) (c : Int) : (tsC es c).all bE = true := by
  unfold tsC
  cases hsC es c
  · exact h
  · exact all_take h _
noncomputable def G80 : Env := { pure := [(108, ofT F108), (109, ofT F109), (122, ofT F122), (123, ofT F123), (124, ofT F124), (13, ofT F13), (15, ofT F15)], conv := true }
theorem g80 : GOK Tryz.prog G80 := GOK.flags (GOK.also (GOK.also (GOK.also (GOK.also (GOK.also (GOK.also (GOK.also g0 ok15) ok13) ok124) ok123) ok122) ok109) ok108)
noncomputable def b80 : Code := ((Tryz.f80.body.map loopsOf).getD []).headD .skip
def L80 : List AV → List (Option Row) → Tr LOut
  | [.slv (.int .u8) cs, .ptr 1 0, .own 900], [some (.box false [.int .i64 0, .int .i64 0]), some (.arr false (.int .u8) e out none)] =>
    .gd (cs.all bE && decide (cs.length ≤ 48000 ∧ out.length + cs.length ≤ 100000 ∧ e = 5)) (.leaf (.exit 0, [.slv (.int .u8) [], .ptr 1 0, .own 900], [some (.box false [.int .i64 0, .int .i64 0]), some (.arr false (.int .u8) e (out ++ qD cs) none)]))
  | _, _ => .no
def l80 : Ev.Loop := ⟨{ len := 63, slots := [0, 3, 4], rows := [1, 900], homes := [(4, 900, 5)] }, ofL L80⟩
def μ80 (vs : List AV) (_ : List (Option Row)) : Nat := match vs with
  | [.slv _ cs, _, _] => cs.length
  | _ => 0
theorem loop80 : LoopOK Tryz.prog G80 [(4, l80)] b80 l80 := by
  refine loopT g80.natOK rfl (KOK.nil (by kernel_rfl)) μ80 (fun ρ vs rs k r h => ?_)
  unfold L80 at h
  split at h
  · rename_i cs e out
    obtain ⟨hc, hk⟩ := gd_some h
    simp only [Bool.and_eq_true] at hc
    obtain ⟨hbb, hb0⟩ := hc
    obtain ⟨hb, hb2, rfl⟩ := of_decide_eq_true hb0
    clear hb0
    have tail : ∀ (i : Nat) (b : List AV), 1 ≤ i → i ≤ cs.length → b.length ≤ i → b.all bE = true → i = iQ cs → b = lnB cs i →
      (bif slb (b.length : Int) (i : Int) cs.length then bif b.all bE && (decide (([32, 9] : List UInt8).length ≤ 1000) && ([32, 9] : List UInt8).all fun b => decide (b.toNat < 128)) then bif decide ((List.take (Lib.trimRightS (strAV b) [32, 9]).length b).length ≤ 9223372036854775807) then bif hsC (List.take (Lib.trimRightS (strAV b) [32, 9]).length b) 61 then bif slb 0 (IntKind.i64.wrap (((List.take (Lib.trimRightS (strAV b) [32, 9]).length b).length : Int) - 1)) (List.take (Lib.trimRightS (strAV b) [32, 9]).length b).length then bif decide ((List.take ((IntKind.i64.wrap (((List.take (Lib.trimRightS (strAV b) [32, 9]).length b).length : Int) - 1)).toNat - Int.toNat 0) (List.drop 0 (List.take (Lib.trimRightS (strAV b) [32, 9]).length b))).length ≤ 48000) && (List.take ((IntKind.i64.wrap (((List.take (Lib.trimRightS (strAV b) [32, 9]).length b).length : Int) - 1)).toNat - Int.toNat 0) (List.drop 0 (List.take (Lib.trimRightS (strAV b) [32, 9]).length b))).all bE then bif roomB (out.length + (pD (List.take ((IntKind.i64.wrap (((List.take (Lib.trimRightS (strAV b) [32, 9]).length b).length : Int) - 1)).toNat - Int.toNat 0) (List.drop 0 (List.take (Lib.trimRightS (strAV b) [32, 9]).length b)))).length) (Tryz.prog.bytesOf 5) then bif roomB ((out ++ pD (List.take ((IntKind.i64.wrap (((List.take (Lib.trimRightS (strAV b) [32, 9]).length b).length : Int) - 1)).toNat - Int.toNat 0) (List.drop 0 (List.take (Lib.trimRightS (strAV b) [32, 9]).length b)))).length + ([] : List AV).length) (Tryz.prog.bytesOf 5) then (bif slb (i : Int) (cs.length : Int) cs.length then bif decide ((List.take ((cs.length : Int).toNat - (i : Int).toNat) (List.drop (i : Int).toNat cs)).length < cs.length) then bif (List.take ((cs.length : Int).toNat - (i : Int).toNat) (List.drop (i : Int).toNat cs)).all bE && decide ((List.take ((cs.length : Int).toNat - (i : Int).toNat) (List.drop (i : Int).toNat cs)).length ≤ 48000 ∧ (out ++ pD (List.take ((IntKind.i64.wrap (((List.take (Lib.trimRightS (strAV b) [32, 9]).length b).length : Int) - 1)).toNat - Int.toNat 0) (List.drop 0 (List.take (Lib.trimRightS (strAV b) [32, 9]).length b))) ++ []).length + (List.take ((cs.length : Int).toNat - (i : Int).toNat) (List.drop (i : Int).toNat cs)).length ≤ 100000 ∧ (5 : TypeId) = 5) then k (.exit 0) [AV.slv (.int .u8) [], .ptr 1 0, .own 900] [some (Row.box false [.int .i64 0, .int .i64 0]), some (Row.arr false (.int .u8) 5 (out ++ pD (List.take ((IntKind.i64.wrap (((List.take (Lib.trimRightS (strAV b) [32, 9]).length b).length : Int) - 1)).toNat - Int.toNat 0) (List.drop 0 (List.take (Lib.trimRightS (strAV b) [32, 9]).length b))) ++ [] ++ qD (List.take ((cs.length : Int).toNat - (i : Int).toNat) (List.drop (i : Int).toNat cs))) none)] else none else none else none) else none else none else none else none
        else bif decide ((List.take (Lib.trimRightS (strAV b) [32, 9]).length b).length ≤ 48000) && (List.take (Lib.trimRightS (strAV b) [32, 9]).length b).all bE then bif roomB (out.length + (pD (List.take (Lib.trimRightS (strAV b) [32, 9]).length b)).length) (Tryz.prog.bytesOf 5) then bif roomB ((out ++ pD (List.take (Lib.trimRightS (strAV b) [32, 9]).length b)).length + (List.take ((i : Int).toNat - (b.length : Int).toNat) (List.drop (b.length : Int).toNat cs)).length) (Tryz.prog.bytesOf 5) then (bif slb (i : Int) (cs.length : Int) cs.length then bif decide ((List.take ((cs.length : Int).toNat - (i : Int).toNat) (List.drop (i : Int).toNat cs)).length < cs.length) then bif (List.take ((cs.length : Int).toNat - (i : Int).toNat) (List.drop (i : Int).toNat cs)).all bE && decide ((List.take ((cs.length : Int).toNat - (i : Int).toNat) (List.drop (i : Int).toNat cs)).length ≤ 48000 ∧ (out ++ pD (List.take (Lib.trimRightS (strAV b) [32, 9]).length b) ++ (List.take ((i : Int).toNat - (b.length : Int).toNat) (List.drop (b.length : Int).toNat cs))).length + (List.take ((cs.length : Int).toNat - (i : Int).toNat) (List.drop (i : Int).toNat cs)).length ≤ 100000 ∧ (5 : TypeId) = 5) then k (.exit 0) [AV.slv (.int .u8) [], .ptr 1 0, .own 900] [some (Row.box false [.int .i64 0, .int .i64 0]), some (Row.arr false (.int .u8) 5 (out ++ pD (List.take (Lib.trimRightS (strAV b) [32, 9]).length b) ++ (List.take ((i : Int).toNat - (b.length : Int).toNat) (List.drop (b.length : Int).toNat cs)) ++ qD (List.take ((cs.length : Int).toNat - (i : Int).toNat) (List.drop (i : Int).toNat cs))) none)] else none else none else none) else none else none else none else none else none else none) =
      k (.exit 0) [AV.slv (.int .u8) [], .ptr 1 0, .own 900] [some (Row.box false [.int .i64 0, .int .i64 0]), some (Row.arr false (.int .u8) 5 (out ++ qD cs) none)] := by
      intro i b h1 h2 h3 hba hi hb'
      have hpos : 0 < cs.length := by omega
      rw [qD_step hpos hb, ← hi, ← hb']
      have hL : List.take (Lib.trimRightS (strAV b) [32, 9]).length b = lnC b := rfl
      have hll := lnC_len b
      have hla : (lnC b).all bE = true := all_take hba _
      have hR : List.take (cs.length - i) (List.drop i cs) = cs.drop i := List.take_of_length_le (by rw [List.length_drop]; omega)
      have hdl : (cs.drop i).length = cs.length - i := List.length_drop
      simp only [hL, Int.toNat_natCast, hR]
      have c1 : slb (b.length : Int) (i : Int) cs.length = true := slb_true (by omega) (by omega) (by omega)
      have c2 : (b.all bE && (decide (([32, 9] : List UInt8).length ≤ 1000) && ([32, 9] : List UInt8).all fun b => decide (b.toNat < 128))) = true := by rw [hba]; rfl
      have c3 : decide ((lnC b).length ≤ 9223372036854775807) = true := decide_eq_true (by omega)
      have c4 : slb (i : Int) (cs.length : Int) cs.length = true := slb_true (by omega) (by omega) (by omega)
      have c5 : decide ((cs.drop i).length < cs.length) = true := decide_eq_true (by omega)
      have c6 : (cs.drop i).all bE = true := all_drop hbb i
      rw [cond_t c1, cond_t c2, cond_t c3]
      unfold outQ
      cases hq : hsC (lnC b) 61
      · have p1 := pD_len (lnC b)
        have p2 : (List.take (i - b.length) (List.drop b.length cs)).length ≤ i - b.length := by rw [List.length_take]; omega
        simp only [cond_false]
        rw [cond_t (and_t (decide_eq_true (by omega)) hla), cond_t (room5 (by omega)), cond_t (room5 (by rw [List.length_append]; omega)), cond_t c4, cond_t c5, cond_t (and_t c6 (decide_eq_true ⟨by omega, by rw [List.length_append, List.length_append]; omega, trivial⟩))]
        rw [List.append_assoc, List.append_assoc, List.append_assoc]
      · have hl1 := hsC_len hq
        have w : IntKind.i64.wrap (((lnC b).length : Int) - 1) = (((lnC b).length - 1 : Nat) : Int) := by rw [wrap_small _ (by omega) (by omega)]; omega
        have p1 := pD_len (List.take ((lnC b).length - 1) (lnC b))
        have p3 : (List.take ((lnC b).length - 1) (lnC b)).length ≤ (lnC b).length - 1 := by rw [List.length_take]; omega
        have z0 : Int.toNat 0 = 0 := rfl
        simp only [cond_true, w, Int.toNat_natCast, z0, Nat.sub_zero, List.drop_zero, List.append_nil, List.length_nil, Nat.add_zero]
        rw [cond_t (slb_true (by omega) (by omega) (by omega)), cond_t (and_t (decide_eq_true (by omega)) (all_take hla _)), cond_t (room5 (by omega)), cond_t (room5 (by rw [List.length_append]; omega)), cond_t c4, cond_t c5, cond_t (and_t c6 (decide_eq_true ⟨by omega, by rw [List.length_append]; omega, trivial⟩))]
        rw [List.append_assoc]
    refine Eq.trans (b := have c81 := (tsC (List.take ((↑cs.length : Int).toNat - Int.toNat (0 : Int)) (List.drop (0 : Nat) cs)) (10 : Int)); have c83 := ([32, 9] : List UInt8); have c84 := (List.take ((↑cs.length : Int).toNat - (↑cs.length : Int).toNat) (List.drop (↑cs.length : Int).toNat cs)); have c85 := (List.take (Lib.trimRightS (strAV (tsC c81 (13 : Int))) c83).length (tsC c81 (13 : Int))); have c89 := (IntKind.i64.wrap (Lib.indexByte (strAV cs) (Int.toNat (10 : Int)).toUInt8 + (1 : Int))); have c80 := (tsC (List.take (c89.toNat - Int.toNat (0 : Int)) (List.drop (0 : Nat) cs)) (10 : Int)); have c82 := (List.take ((↑cs.length : Int).toNat - c89.toNat) (List.drop c89.toNat cs)); have c86 := (List.take (Lib.trimRightS (strAV (tsC c80 (13 : Int))) c83).length (tsC c80 (13 : Int))); have c90 := (List.take ((IntKind.i64.wrap ((↑c85.length : Int) - (1 : Int))).toNat - Int.toNat (0 : Int)) (List.drop (0 : Nat) c85)); have c91 := (List.take ((IntKind.i64.wrap ((↑c86.length : Int) - (1 : Int))).toNat - Int.toNat (0 : Int)) (List.drop (0 : Nat) c86)); have c92 := (Row.box false [AV.int IntKind.i64 0, AV.int IntKind.i64 0]); have c93 := [AV.slv (Sh.int IntKind.u8) [], AV.ptr 1 0, AV.own 900]; have c94 := (List.take (Lib.trimRightS (strAV c81) c83).length c81); have c87 := (List.take ((IntKind.i64.wrap ((↑c94.length : Int) - (1 : Int))).toNat - Int.toNat (0 : Int)) (List.drop (0 : Nat) c94)); have c95 := (List.take (Lib.trimRightS (strAV c80) c83).length c80); have c88 := (List.take ((IntKind.i64.wrap ((↑c95.length : Int) - (1 : Int))).toNat - Int.toNat (0 : Int)) (List.drop (0 : Nat) c95)); have c96 := (↑(tsC c81 (13 : Int)).length : Int); have c97 := (↑(tsC c80 (13 : Int)).length : Int); bif decide ((↑cs.length : Int) > (0 : Int)) then bif decide ((0 : Nat) < cs.length) then bif IntKind.i64.wrap (Lib.indexByte (strAV cs) (Int.toNat (10 : Int)).toUInt8 + (1 : Int)) == (0 : Int) then bif slb (0 : Int) (↑cs.length : Int) cs.length then bif decide ((List.take ((↑cs.length : Int).toNat - Int.toNat (0 : Int)) (List.drop (0 : Nat) cs)).length ≤ (9223372036854775807 : Nat)) then bif decide ((↑c81.length : Int) < (↑cs.length : Int)) then bif decide (c81.length ≤ (9223372036854775807 : Nat)) then bif slb c96 (↑cs.length : Int) cs.length then bif (tsC c81 (13 : Int)).all bE && (decide (c83.length ≤ (1000 : Nat)) && c83.all fun b => decide (b.toNat < (128 : Nat))) then bif decide (c85.length ≤ (9223372036854775807 : Nat)) then bif hsC c85 (61 : Int) then bif slb (0 : Int) (IntKind.i64.wrap ((↑c85.length : Int) - (1 : Int))) c85.length then bif decide (c90.length ≤ (48000 : Nat)) && c90.all bE then bif roomB (out.length + (pD c90).length) (Tryz.prog.bytesOf 5) then bif roomB ((out ++ pD c90).length + ([] : List AV).length) (Tryz.prog.bytesOf 5) then bif slb (↑cs.length : Int) (↑cs.length : Int) cs.length then bif decide (c84.length < cs.length) then bif c84.all bE && decide (c84.length ≤ (48000 : Nat) ∧ (out ++ pD c90 ++ []).length + c84.length ≤ (100000 : Nat) ∧ (5 : Nat) = (5 : TypeId)) then k (Ex.exit (0 : Nat)) c93 [some c92, some (Row.arr false (Sh.int IntKind.u8) (5 : Nat) (out ++ pD c90 ++ [] ++ qD c84) none)] else none else none else none else none else none else none else none else bif decide (c85.length ≤ (48000 : Nat)) && c85.all bE then bif roomB (out.length + (pD c85).length) (Tryz.prog.bytesOf 5) then bif roomB ((out ++ pD c85).length + (List.take ((↑cs.length : Int).toNat - c96.toNat) (List.drop c96.toNat cs)).length) (Tryz.prog.bytesOf 5) then bif slb (↑cs.length : Int) (↑cs.length : Int) cs.length then bif decide (c84.length < cs.length) then bif c84.all bE && decide (c84.length ≤ (48000 : Nat) ∧ (out ++ pD c85 ++ List.take ((↑cs.length : Int).toNat - c96.toNat) (List.drop c96.toNat cs)).length + c84.length ≤ (100000 : Nat) ∧ (5 : Nat) = (5 : TypeId)) then k (Ex.exit (0 : Nat)) c93 [some c92, some (Row.arr false (Sh.int IntKind.u8) (5 : Nat) (out ++ pD c85 ++ List.take ((↑cs.length : Int).toNat - c96.toNat) (List.drop c96.toNat cs) ++ qD c84) none)] else none else none else none else none else none else none else none else none else none else none else bif slb (↑c81.length : Int) (↑cs.length : Int) cs.length then bif c81.all bE && (decide (c83.length ≤ (1000 : Nat)) && c83.all fun b => decide (b.toNat < (128 : Nat))) then bif decide (c94.length ≤ (9223372036854775807 : Nat)) then bif hsC c94 (61 : Int) then bif slb (0 : Int) (IntKind.i64.wrap ((↑c94.length : Int) - (1 : Int))) c94.length then bif decide (c87.length ≤ (48000 : Nat)) && c87.all bE then bif roomB (out.length + (pD c87).length) (Tryz.prog.bytesOf 5) then bif roomB ((out ++ pD c87).length + ([] : List AV).length) (Tryz.prog.bytesOf 5) then bif slb (↑cs.length : Int) (↑cs.length : Int) cs.length then bif decide (c84.length < cs.length) then bif c84.all bE && decide (c84.length ≤ (48000 : Nat) ∧ (out ++ pD c87 ++ []).length + c84.length ≤ (100000 : Nat) ∧ (5 : Nat) = (5 : TypeId)) then k (Ex.exit (0 : Nat)) c93 [some c92, some (Row.arr false (Sh.int IntKind.u8) (5 : Nat) (out ++ pD c87 ++ [] ++ qD c84) none)] else none else none else none else none else none else none else none else bif decide (c94.length ≤ (48000 : Nat)) && c94.all bE then bif roomB (out.length + (pD c94).length) (Tryz.prog.bytesOf 5) then bif roomB ((out ++ pD c94).length + (List.take ((↑cs.length : Int).toNat - (↑c81.length : Int).toNat) (List.drop (↑c81.length : Int).toNat cs)).length) (Tryz.prog.bytesOf 5) then bif slb (↑cs.length : Int) (↑cs.length : Int) cs.length then bif decide (c84.length < cs.length) then bif c84.all bE && decide (c84.length ≤ (48000 : Nat) ∧ (out ++ pD c94 ++ List.take ((↑cs.length : Int).toNat - (↑c81.length : Int).toNat) (List.drop (↑c81.length : Int).toNat cs)).length + c84.length ≤ (100000 : Nat) ∧ (5 : Nat) = (5 : TypeId)) then k (Ex.exit (0 : Nat)) c93 [some c92, some (Row.arr false (Sh.int IntKind.u8) (5 : Nat) (out ++ pD c94 ++ List.take ((↑cs.length : Int).toNat - (↑c81.length : Int).toNat) (List.drop (↑c81.length : Int).toNat cs) ++ qD c84) none)] else none else none else none else none else none else none else none else none else none else none else none else bif slb (0 : Int) c89 cs.length then bif decide ((List.take (c89.toNat - Int.toNat (0 : Int)) (List.drop (0 : Nat) cs)).length ≤ (9223372036854775807 : Nat)) then bif decide ((↑c80.length : Int) < IntKind.i64.wrap (Lib.indexByte (strAV cs) (Int.toNat (10 : Int)).toUInt8 + (1 : Int))) then bif decide (c80.length ≤ (9223372036854775807 : Nat)) then bif slb c97 c89 cs.length then bif (tsC c80 (13 : Int)).all bE && (decide (c83.length ≤ (1000 : Nat)) && c83.all fun b => decide (b.toNat < (128 : Nat))) then bif decide (c86.length ≤ (9223372036854775807 : Nat)) then bif hsC c86 (61 : Int) then bif slb (0 : Int) (IntKind.i64.wrap ((↑c86.length : Int) - (1 : Int))) c86.length then bif decide (c91.length ≤ (48000 : Nat)) && c91.all bE then bif roomB (out.length + (pD c91).length) (Tryz.prog.bytesOf 5) then bif roomB ((out ++ pD c91).length + ([] : List AV).length) (Tryz.prog.bytesOf 5) then bif slb c89 (↑cs.length : Int) cs.length then bif decide (c82.length < cs.length) then bif c82.all bE && decide (c82.length ≤ (48000 : Nat) ∧ (out ++ pD c91 ++ []).length + c82.length ≤ (100000 : Nat) ∧ (5 : Nat) = (5 : TypeId)) then k (Ex.exit (0 : Nat)) c93 [some c92, some (Row.arr false (Sh.int IntKind.u8) (5 : Nat) (out ++ pD c91 ++ [] ++ qD c82) none)] else none else none else none else none else none else none else none else bif decide (c86.length ≤ (48000 : Nat)) && c86.all bE then bif roomB (out.length + (pD c86).length) (Tryz.prog.bytesOf 5) then bif roomB ((out ++ pD c86).length + (List.take (c89.toNat - c97.toNat) (List.drop c97.toNat cs)).length) (Tryz.prog.bytesOf 5) then bif slb c89 (↑cs.length : Int) cs.length then bif decide (c82.length < cs.length) then bif c82.all bE && decide (c82.length ≤ (48000 : Nat) ∧ (out ++ pD c86 ++ List.take (c89.toNat - c97.toNat) (List.drop c97.toNat cs)).length + c82.length ≤ (100000 : Nat) ∧ (5 : Nat) = (5 : TypeId)) then k (Ex.exit (0 : Nat)) c93 [some c92, some (Row.arr false (Sh.int IntKind.u8) (5 : Nat) (out ++ pD c86 ++ List.take (c89.toNat - c97.toNat) (List.drop c97.toNat cs) ++ qD c82) none)] else none else none else none else none else none else none else none else none else none else none else bif slb (↑c80.length : Int) c89 cs.length then bif c80.all bE && (decide (c83.length ≤ (1000 : Nat)) && c83.all fun b => decide (b.toNat < (128 : Nat))) then bif decide (c95.length ≤ (9223372036854775807 : Nat)) then bif hsC c95 (61 : Int) then bif slb (0 : Int) (IntKind.i64.wrap ((↑c95.length : Int) - (1 : Int))) c95.length then bif decide (c88.length ≤ (48000 : Nat)) && c88.all bE then bif roomB (out.length + (pD c88).length) (Tryz.prog.bytesOf 5) then bif roomB ((out ++ pD c88).length + ([] : List AV).length) (Tryz.prog.bytesOf 5) then bif slb c89 (↑cs.length : Int) cs.length then bif decide (c82.length < cs.length) then bif c82.all bE && decide (c82.length ≤ (48000 : Nat) ∧ (out ++ pD c88 ++ []).length + c82.length ≤ (100000 : Nat) ∧ (5 : Nat) = (5 : TypeId)) then k (Ex.exit (0 : Nat)) c93 [some c92, some (Row.arr false (Sh.int IntKind.u8) (5 : Nat) (out ++ pD c88 ++ [] ++ qD c82) none)] else none else none else none else none else none else none else none else bif decide (c95.length ≤ (48000 : Nat)) && c95.all bE then bif roomB (out.length + (pD c95).length) (Tryz.prog.bytesOf 5) then bif roomB ((out ++ pD c95).length + (List.take (c89.toNat - (↑c80.length : Int).toNat) (List.drop (↑c80.length : Int).toNat cs)).length) (Tryz.prog.bytesOf 5) then bif slb c89 (↑cs.length : Int) cs.length then bif decide (c82.length < cs.length) then bif c82.all bE && decide (c82.length ≤ (48000 : Nat) ∧ (out ++ pD c95 ++ List.take (c89.toNat - (↑c80.length : Int).toNat) (List.drop (↑c80.length : Int).toNat cs)).length + c82.length ≤ (100000 : Nat) ∧ (5 : Nat) = (5 : TypeId)) then k (Ex.exit (0 : Nat)) c93 [some c92, some (Row.arr false (Sh.int IntKind.u8) (5 : Nat) (out ++ pD c95 ++ List.take (c89.toNat - (↑c80.length : Int).toNat) (List.drop (↑c80.length : Int).toNat cs) ++ qD c82) none)] else none else none else none else none else none else none else none else none else none else none else none else none else k (Ex.exit (0 : Nat)) [AV.slv (Sh.int IntKind.u8) cs, AV.ptr 1 0, AV.own 900] [some c92, some (Row.arr false (Sh.int IntKind.u8) (5 : Nat) out none)]) (by kernel_rfl) ?_
    conv => zeta
    rw [← hk]
    by_cases hlt : 0 < cs.length
    · have hx : (Int.toNat 10).toUInt8 = (10 : UInt8) := rfl
      have z0 : Int.toNat 0 = 0 := rfl
      have hr := iQ_rng hlt hb
      rw [hx]
      refine Eq.trans (cond_t (decide_eq_true (by omega))) (Eq.trans (cond_t (decide_eq_true hlt)) ?_)
      have go : ∀ i : Nat, i = iQ cs → (tsC (cs.take i) 10).length ≤ i ∧ (tsC (tsC (cs.take i) 10) 13).length ≤ i ∧ (tsC (cs.take i) 10).all bE = true ∧ (tsC (tsC (cs.take i) 10) 13).all bE = true := fun i hi => by
        have l1 := tsC_len (cs.take i) 10
        have l2 := tsC_len (tsC (cs.take i) 10) 13
        rw [List.length_take] at l1
        exact ⟨by omega, by omega, tsC_all (all_take hbb i) 10, tsC_all (tsC_all (all_take hbb i) 10) 13⟩
      cases hW : IntKind.i64.wrap (Lib.indexByte (strAV cs) 10 + 1) == 0
      · obtain ⟨i, hI⟩ : ∃ i : Nat, IntKind.i64.wrap (Lib.indexByte (strAV cs) 10 + 1) = i := by
          unfold iQ at hr
          rw [hW, cond_false] at hr
          exact ⟨(IntKind.i64.wrap (Lib.indexByte (strAV cs) 10 + 1)).toNat, by omega⟩
        have hi : i = iQ cs := by unfold iQ; rw [hW, cond_false, hI]; rfl
        obtain ⟨g1, g2, g3, g4⟩ := go i hi
        rw [hI, cond_false]
        simp only [Int.toNat_natCast, z0, Nat.sub_zero, List.drop_zero] at tail ⊢
        refine Eq.trans (cond_t (slb_true (by omega) (by omega) (by omega))) (Eq.trans (cond_t (decide_eq_true (by rw [List.length_take]; omega))) ?_)
        cases hA : decide (((tsC (cs.take i) 10).length : Int) < i)
        · exact tail i (tsC (cs.take i) 10) (by omega) (by omega) g1 g3 hi (by unfold lnB; rw [hA]; rfl)
        · exact Eq.trans (cond_t rfl) (Eq.trans (cond_t (decide_eq_true (by omega))) (tail i (tsC (tsC (cs.take i) 10) 13) (by omega) (by omega) g2 g4 hi (by unfold lnB; rw [hA]; rfl)))
      · have hi : cs.length = iQ cs := by unfold iQ; rw [hW, cond_true]
        obtain ⟨g1, g2, g3, g4⟩ := go cs.length hi
        rw [cond_true]
        simp only [Int.toNat_natCast, z0, Nat.sub_zero, List.drop_zero] at tail ⊢
        refine Eq.trans (cond_t (slb_true (by omega) (by omega) (by omega))) (Eq.trans (cond_t (decide_eq_true (by rw [List.length_take]; omega))) ?_)
        cases hA : decide (((tsC (cs.take cs.length) 10).length : Int) < cs.length)
        · exact tail cs.length (tsC (cs.take cs.length) 10) (by omega) (by omega) g1 g3 hi (by unfold lnB; rw [hA]; rfl)
        · exact Eq.trans (cond_t rfl) (Eq.trans (cond_t (decide_eq_true (by omega))) (tail cs.length (tsC (tsC (cs.take cs.length) 10) 13) (by omega) (by omega) g2 g4 hi (by unfold lnB; rw [hA]; rfl)))
    · obtain rfl : cs = [] := List.eq_nil_of_length_eq_zero (by omega)
      show k _ _ _ = k _ _ [some (.box false [.int .i64 0, .int .i64 0]), some (.arr false (.int .u8) 5 (out ++ []) none)]
      rw [List.append_nil]
  · cases h
def F80 : List AV → Tr AV
  | [.slv (.int .u8) es] => .gd (small es.length && es.all bE) (.br (decide ((es.length : Int) > 48000)) (.leaf (.tup [.slv (.int .u8) [], .agg [.int .i64 1, .int .i64 (-1)]])) (.leaf (.tup [.slv (.int .u8) (qD es), .agg [.int .i64 0, .int .i64 0]])))
  | _ => .no
theorem ok80 : SumOK Tryz.prog 80 (ofT F80) ∧ SNat (ofT F80) := by
  refine fn1 (K := [(4, l80)]) (b := b80) (l := l80) g80 Tryz.func80 (by kernel_rfl) (by kernel_rfl) loop80 fun ρ avs k r h => ?_
  unfold F80 at h
  split at h
  · rename_i es
    obtain ⟨hc, hk⟩ := gd_some h
    obtain ⟨hs, hall⟩ := (Bool.and_eq_true _ _).mp hc
    refine Eq.trans (b := bif decide ((↑es.length : Int) > (48000 : Int)) then k (AV.tup [AV.slv (Sh.int IntKind.u8) [], AV.agg [AV.int IntKind.i64 1, AV.int IntKind.i64 (-1 : Int)]]) else bif es.all bE && decide (es.length ≤ (48000 : Nat) ∧ ([] : List AV).length + es.length ≤ (100000 : Nat) ∧ ((4 : Nat), (900 : Nat), (5 : TypeId)).snd.snd = (5 : TypeId)) then k (AV.tup [AV.slv (Sh.int IntKind.u8) ([] ++ qD es), AV.agg [AV.int IntKind.i64 0, AV.int IntKind.i64 0]]) else none) (by kernel_rfl) ?_
    rw [← hk, hall]
    show _ = (bif decide ((es.length : Int) > 48000) then _ else _)
    cases hd : decide ((es.length : Int) > 48000)
    · have := of_decide_eq_false hd
      exact cond_t (and_t rfl (decide_eq_true ⟨by omega, by show 0 + _ ≤ _; omega, rfl⟩))
    · rfl
  · cases h
end Go.Proofs.YtpmlhkoianekfaaGreatDoor


namespace Go.Proofs.YtpmlhkoianekfaaGreatDoor
open Go.Ev
def b64A : List UInt8 := [65, 66, 67, 68, 69, 70, 71, 72, 73, 74, 75, 76, 77, 78, 79, 80, 81, 82, 83, 84, 85, 86, 87, 88, 89, 90, 97, 98, 99, 100, 101, 102, 103, 104, 105, 106, 107, 108, 109, 110, 111, 112, 113, 114, 115, 116, 117, 118, 119, 120, 121, 122, 48, 49, 50, 51, 52, 53, 54, 55, 56, 57, 43, 47]
def isT : List AV → List UInt8 → Tr AV → Tr AV
  | [], [], y => y
  | .int .u8 x :: xs, a :: ps, y => bif x == (a.toNat : Int) then isT xs ps y else .no
  | _, _, _ => .no
def b64I (c : Int) : Int := Lib.indexByte b64A c.toNat.toUInt8
def F108a : List AV → Tr AV
  | [.slv (.int .u8) es, .int .u8 c] => isT es b64A (.leaf (.int .i64 (b64I c)))
  | _ => .no
theorem isT_run {ρ : Type} (k : AV → Option ρ) (r : ρ) (y : Tr AV) : ∀ (es : List AV) (ps : List UInt8), (isT es ps y).run k = some r → es = bytesAV ps ∧ y.run k = some r
  | [], [], h => ⟨rfl, h⟩
  | [], _ :: _, h => by cases h
  | x :: xs, [], h => by
    have : isT (x :: xs) [] y = .no := by unfold isT; split <;> first | rfl | contradiction
    rw [this] at h; cases h
  | x :: xs, a :: ps, h => by
    unfold isT at h
    split at h
    · contradiction
    · rename_i z zs c cs e1 e2
      injection e1 with e3 e4
      injection e2 with e5 e6
      subst e3 e4 e5 e6
      cases hx : z == (a.toNat : Int)
      · rw [hx] at h; cases h
      · rw [hx, cond_true] at h
        obtain ⟨h1, h2⟩ := isT_run k r _ xs ps h
        rw [h1, eq_of_beq hx]
        exact ⟨rfl, h2⟩
    · cases h
theorem ok108a : SumOK Tryz.prog 108 (ofT F108a) ∧ SNat (ofT F108a) := by
  refine ⟨fun ρ w S avs args k r hS hv hk => ?_, snat_ofT F108a⟩
  refine ok108.1 ρ w S avs args k r hS hv ?_
  have hk' : (F108a avs).run k = some r := hk
  show (F108 avs).run k = some r
  unfold F108a at hk'
  split at hk'
  · rename_i es c
    obtain ⟨rfl, h2⟩ := isT_run k r _ es b64A hk'
    rw [← h2]
    show (Tr.gd (decide (0 < (bytesAV b64A).length)) (.leaf (.int .i64 (Lib.indexByte (strAV (bytesAV b64A)) c.toNat.toUInt8)))).run k = _
    rw [strAV_bytes]
    rfl
  · cases hk'
theorem bits64 : IntKind.i64.bits = 64 := rfl
theorem bv_nat (m : Nat) (h : m < 2 ^ 64) : (BitVec.ofInt 64 (m : Int)).toNat = m := by
  rw [BitVec.ofInt_natCast, BitVec.toNat_ofNat, Nat.mod_eq_of_lt h]
theorem or6 {a v : Nat} (ha : a < 256) (hv : v < 64) : IntKind.i64.wrap (((BitVec.ofInt IntKind.i64.bits (IntKind.i64.wrap ((a : Int) * 2 ^ min (Int.toNat 6) IntKind.i64.bits)) ||| BitVec.ofInt IntKind.i64.bits (v : Int)).toNat : Nat) : Int) = ((a * 64 + v : Nat) : Int) := by
  have h6 : (2 : Int) ^ min (Int.toNat 6) IntKind.i64.bits = 64 := by decide
  have hw : IntKind.i64.wrap ((a : Int) * 64) = ((a * 64 : Nat) : Int) := by rw [wrap_small _ (by omega) (by omega)]; omega
  rw [h6, hw, bits64, BitVec.toNat_or, bv_nat _ (by omega), bv_nat _ (by omega)]
  have ho : a * 64 ||| v = a * 64 + v := by
    have := Nat.two_pow_add_eq_or_of_lt (i := 6) (show v < 2 ^ 6 by omega) a
    rw [show (2 : Nat) ^ 6 = 64 from rfl, Nat.mul_comm] at this
    exact this.symm
  rw [ho, wrap_small _ (by omega) (by omega)]
theorem low_n {x q : Nat} (hx : x < 16384) (hq : q < 8) : IntKind.i64.wrap (((BitVec.ofInt IntKind.i64.bits (x : Int) &&& BitVec.ofInt IntKind.i64.bits (IntKind.i64.wrap (IntKind.i64.wrap (1 * 2 ^ min (q : Int).toNat IntKind.i64.bits) - 1))).toNat : Nat) : Int) = ((x % 2 ^ q : Nat) : Int) := by
  have hp : (2 : Nat) ^ q ≤ 128 := by
    have : q ≤ 7 := by omega
    exact Nat.le_trans (Nat.pow_le_pow_right (by decide) this) (by decide)
  have h1 : 0 < (2 : Nat) ^ q := Nat.pow_pos (by decide)
  have hm : min (q : Int).toNat IntKind.i64.bits = q := by rw [Int.toNat_natCast, bits64]; omega
  have hi : (1 : Int) * 2 ^ q = ((2 ^ q : Nat) : Int) := by rw [Int.one_mul]; norm_cast
  rw [hm, hi, wrap_small ((2 ^ q : Nat) : Int) (by omega) (by omega), show ((2 ^ q : Nat) : Int) - 1 = ((2 ^ q - 1 : Nat) : Int) from by omega, wrap_small ((2 ^ q - 1 : Nat) : Int) (by omega) (by omega), bits64, BitVec.toNat_and, bv_nat _ (by omega), bv_nat _ (by omega), Nat.and_two_pow_sub_one_eq_mod]
  have : x % 2 ^ q < 2 ^ q := Nat.mod_lt _ h1
  exact wrap_small _ (by omega) (by omega)
theorem high_n {x q : Nat} (hx : x < 256 * 2 ^ q) (hq : q < 8) : IntKind.u8.wrap ((x : Int).fdiv (2 ^ min (q : Int).toNat IntKind.i64.bits)) = ((x / 2 ^ q : Nat) : Int) := by
  have hm : min (q : Int).toNat IntKind.i64.bits = q := by rw [Int.toNat_natCast, bits64]; omega
  have hi : (2 : Int) ^ q = ((2 ^ q : Nat) : Int) := by norm_cast
  have h1 : 0 < (2 : Nat) ^ q := Nat.pow_pos (by decide)
  have hd : x / 2 ^ q < 256 := Nat.div_lt_of_lt_mul (by rw [Nat.mul_comm]; exact hx)
  rw [hm, hi, Int.fdiv_eq_ediv_of_nonneg _ (by omega)]
  have : (x : Int) / ((2 ^ q : Nat) : Int) = ((x / 2 ^ q : Nat) : Int) := by norm_cast
  rw [this]
  have hb : ∀ m : Fin 256, IntKind.u8.wrap ((m : Nat) : Int) = ((m : Nat) : Int) := by decide +kernel
  exact hb ⟨x / 2 ^ q, hd⟩
theorem b64I_lt (c : Int) : -1 ≤ b64I c ∧ b64I c < 64 := by
  unfold b64I
  rcases idx_cases b64A c.toNat.toUInt8 with h | ⟨o, h, h2⟩
  · rw [h]; omega
  · have : b64A.length = 64 := rfl
    omega
def st79 (a n v : Nat) : List AV × Nat × Nat :=
  bif decide (n + 6 ≥ 8) then ([.int .u8 (((a * 64 + v) / 2 ^ (n - 2) : Nat) : Int)], (a * 64 + v) % 2 ^ (n - 2), n - 2) else ([], a * 64 + v, n + 6)
def bD : List AV → Nat → Nat → List AV × Nat × Nat × Nat
  | [], a, n => ([], a, n, 0)
  | x :: t, a, n => bif iE x == 61 then ([], a, n, 0) else bif decide (b64I (iE x) < 0) then ((bD t a n).1, (bD t a n).2.1, (bD t a n).2.2.1, (bD t a n).2.2.2 + 1)
    else ((st79 a n (b64I (iE x)).toNat).1 ++ (bD t (st79 a n (b64I (iE x)).toNat).2.1 (st79 a n (b64I (iE x)).toNat).2.2).1, (bD t (st79 a n (b64I (iE x)).toNat).2.1 (st79 a n (b64I (iE x)).toNat).2.2).2.1, (bD t (st79 a n (b64I (iE x)).toNat).2.1 (st79 a n (b64I (iE x)).toNat).2.2).2.2.1, (bD t (st79 a n (b64I (iE x)).toNat).2.1 (st79 a n (b64I (iE x)).toNat).2.2).2.2.2 + 1)
theorem bD_cons (x : AV) (t : List AV) (a n : Nat) : bD (x :: t) a n = bif iE x == 61 then ([], a, n, 0) else bif decide (b64I (iE x) < 0) then ((bD t a n).1, (bD t a n).2.1, (bD t a n).2.2.1, (bD t a n).2.2.2 + 1)
    else ((st79 a n (b64I (iE x)).toNat).1 ++ (bD t (st79 a n (b64I (iE x)).toNat).2.1 (st79 a n (b64I (iE x)).toNat).2.2).1, (bD t (st79 a n (b64I (iE x)).toNat).2.1 (st79 a n (b64I (iE x)).toNat).2.2).2.1, (bD t (st79 a n (b64I (iE x)).toNat).2.1 (st79 a n (b64I (iE x)).toNat).2.2).2.2.1, (bD t (st79 a n (b64I (iE x)).toNat).2.1 (st79 a n (b64I (iE x)).toNat).2.2).2.2.2 + 1) := rfl
noncomputable def G79 : Env := { pure := [(108, ofT F108a), (13, ofT F13), (15, ofT F15)], conv := true }
theorem g79 : GOK Tryz.prog G79 := GOK.flags (GOK.also (GOK.also (GOK.also g0 ok15) ok13) ok108a)
noncomputable def b79 : Code := ((Tryz.f79.body.map loopsOf).getD []).headD .skip
def L79 : List AV → List (Option Row) → Tr LOut
  | [.slv (.int .u8) cs, .ptr 1 0, .own 900, .int .i64 a, .int .i64 n, .slv (.int .u8) es, .int .i64 m, .int .i64 i], [some (.box false [.int .i64 0, .int .i64 0]), some (.arr false (.int .u8) e out none)] =>
    .gd (cnt m i es.length && (es.all bE && decide (es.length ≤ 24000 ∧ 0 ≤ n ∧ n < 8 ∧ 0 ≤ a ∧ a.toNat < 2 ^ n.toNat ∧ out.length ≤ i.toNat ∧ e = 5))) (.leaf (.exit 0, [.slv (.int .u8) cs, .ptr 1 0, .own 900, .int .i64 ((bD (es.drop i.toNat) a.toNat n.toNat).2.1 : Nat), .int .i64 ((bD (es.drop i.toNat) a.toNat n.toNat).2.2.1 : Nat), .slv (.int .u8) es, .int .i64 m, .int .i64 (i + ((bD (es.drop i.toNat) a.toNat n.toNat).2.2.2 : Nat))], [some (.box false [.int .i64 0, .int .i64 0]), some (.arr false (.int .u8) e (out ++ (bD (es.drop i.toNat) a.toNat n.toNat).1) none)]))
  | _, _ => .no
def l79 : Ev.Loop := ⟨{ len := 53, slots := [0, 3, 4, 5, 6, 14, 15, 16], rows := [1, 900], homes := [(4, 900, 5)] }, ofL L79⟩
def μ79 (vs : List AV) (_ : List (Option Row)) : Nat := match vs with
  | [_, _, _, _, _, _, .int _ m, .int _ i] => (m - i).toNat
  | _ => 0
theorem loop79 : LoopOK Tryz.prog G79 [(6, l79)] b79 l79 := by
  refine loopT g79.natOK rfl (KOK.nil (by kernel_rfl)) μ79 (fun ρ vs rs k r h => ?_)
  unfold L79 at h
  split at h
  · rename_i cs a n es m i e out
    obtain ⟨hc, hk⟩ := gd_some h
    simp only [Bool.and_eq_true] at hc
    obtain ⟨hc, hbb, hb0⟩ := hc
    obtain ⟨hb, hn0, hn8, ha0, ha8, hb2, rfl⟩ := of_decide_eq_true hb0
    clear hb0
    obtain ⟨rfl, hs, j, rfl, hj⟩ := cnt_spec hc
    rw [Int.toNat_natCast] at hb2
    obtain ⟨A, rfl⟩ : ∃ A : Nat, a = A := ⟨a.toNat, by omega⟩
    obtain ⟨N, rfl⟩ : ∃ N : Nat, n = N := ⟨n.toNat, by omega⟩
    rw [Int.toNat_natCast, Int.toNat_natCast] at ha8
    rw [Int.toNat_natCast, Int.toNat_natCast, Int.toNat_natCast] at hk
    refine Eq.trans (b := have c80 := (IntKind.i64.wrap (↑(BitVec.ofInt IntKind.i64.bits (IntKind.i64.wrap ((↑A : Int) * (2 : Int) ^ min (Int.toNat (6 : Int)) IntKind.i64.bits)) ||| BitVec.ofInt IntKind.i64.bits (b64I (iE (es.getD j AV.unk)))).toNat : Int)); have c82 := (IntKind.i64.wrap ((↑j : Int) + (1 : Int))); have c83 := (IntKind.i64.wrap ((↑N : Int) + (6 : Int)) - (8 : Int)); have c84 := (Row.box false [AV.int IntKind.i64 0, AV.int IntKind.i64 0]); have c85 := (bD (List.drop c82.toNat es) c80.toNat (IntKind.i64.wrap ((↑N : Int) + (6 : Int))).toNat); have c86 := [AV.slv (Sh.int IntKind.u8) cs, AV.ptr 1 0, AV.own 900, AV.int IntKind.i64 (↑A : Int), AV.int IntKind.i64 (↑N : Int), AV.slv (Sh.int IntKind.u8) es, AV.int IntKind.i64 (↑es.length : Int), AV.int IntKind.i64 (↑j : Int)]; have c87 := [AV.int IntKind.u8 (IntKind.u8.wrap (c80.fdiv ((2 : Int) ^ min (IntKind.i64.wrap c83).toNat IntKind.i64.bits)))]; have c88 := (↑(BitVec.ofInt IntKind.i64.bits c80 &&& BitVec.ofInt IntKind.i64.bits (IntKind.i64.wrap (IntKind.i64.wrap ((1 : Int) * (2 : Int) ^ min (IntKind.i64.wrap c83).toNat IntKind.i64.bits) - (1 : Int)))).toNat : Int); have c81 := (bD (List.drop c82.toNat es) (IntKind.i64.wrap c88).toNat (IntKind.i64.wrap c83).toNat); bif decide ((↑j : Int) < (↑es.length : Int)) then bif inb (↑j : Int) es.length then bif (iE (es.getD j AV.unk)) == (61 : Int) then k (Ex.exit (0 : Nat)) c86 [some c84, some (Row.arr false (Sh.int IntKind.u8) (5 : Nat) out none)] else bif decide (b64I (iE (es.getD j AV.unk)) < (0 : Int)) then bif decide (((↑es.length : Int) - IntKind.i64.wrap ((↑j : Int) + (1 : Int))).toNat < ((↑es.length : Int) - (↑j : Int)).toNat) then bif cnt (↑es.length : Int) c82 es.length && (es.all bE && decide (es.length ≤ (24000 : Nat) ∧ (0 : Int) ≤ (↑N : Int) ∧ (↑N : Int) < (8 : Int) ∧ (0 : Int) ≤ (↑A : Int) ∧ A < (2 : Nat) ^ N ∧ out.length ≤ c82.toNat ∧ (5 : TypeId) = (5 : TypeId))) then k (Ex.exit (0 : Nat)) [AV.slv (Sh.int IntKind.u8) cs, AV.ptr 1 0, AV.own 900, AV.int IntKind.i64 (↑(bD (List.drop c82.toNat es) A N).snd.fst : Int), AV.int IntKind.i64 (↑(bD (List.drop c82.toNat es) A N).snd.snd.fst : Int), AV.slv (Sh.int IntKind.u8) es, AV.int IntKind.i64 (↑es.length : Int), AV.int IntKind.i64 (IntKind.i64.wrap ((↑j : Int) + (1 : Int)) + (↑(bD (List.drop c82.toNat es) A N).snd.snd.snd : Int))] [some c84, some (Row.arr false (Sh.int IntKind.u8) (5 : Nat) (out ++ (bD (List.drop c82.toNat es) A N).fst) none)] else none else none else bif decide (IntKind.i64.wrap ((↑N : Int) + (6 : Int)) ≥ (8 : Int)) then bif decide (IntKind.i64.wrap c83 < (0 : Int)) then none else bif roomB (out.length + c87.length) (Tryz.prog.bytesOf 5) then bif decide (IntKind.i64.wrap c83 < (0 : Int)) then none else bif decide (((↑es.length : Int) - IntKind.i64.wrap ((↑j : Int) + (1 : Int))).toNat < ((↑es.length : Int) - (↑j : Int)).toNat) then bif cnt (↑es.length : Int) c82 es.length && (es.all bE && decide (es.length ≤ (24000 : Nat) ∧ (0 : Int) ≤ IntKind.i64.wrap c83 ∧ IntKind.i64.wrap c83 < (8 : Int) ∧ (0 : Int) ≤ IntKind.i64.wrap c88 ∧ (IntKind.i64.wrap c88).toNat < (2 : Nat) ^ (IntKind.i64.wrap c83).toNat ∧ (out ++ c87).length ≤ c82.toNat ∧ (5 : Nat) = (5 : TypeId))) then k (Ex.exit (0 : Nat)) [AV.slv (Sh.int IntKind.u8) cs, AV.ptr 1 0, AV.own 900, AV.int IntKind.i64 (↑c81.snd.fst : Int), AV.int IntKind.i64 (↑c81.snd.snd.fst : Int), AV.slv (Sh.int IntKind.u8) es, AV.int IntKind.i64 (↑es.length : Int), AV.int IntKind.i64 (IntKind.i64.wrap ((↑j : Int) + (1 : Int)) + (↑c81.snd.snd.snd : Int))] [some c84, some (Row.arr false (Sh.int IntKind.u8) (5 : Nat) (out ++ c87 ++ c81.fst) none)] else none else none else none else bif decide (((↑es.length : Int) - IntKind.i64.wrap ((↑j : Int) + (1 : Int))).toNat < ((↑es.length : Int) - (↑j : Int)).toNat) then bif cnt (↑es.length : Int) c82 es.length && (es.all bE && decide (es.length ≤ (24000 : Nat) ∧ (0 : Int) ≤ IntKind.i64.wrap ((↑N : Int) + (6 : Int)) ∧ IntKind.i64.wrap ((↑N : Int) + (6 : Int)) < (8 : Int) ∧ (0 : Int) ≤ IntKind.i64.wrap (↑(BitVec.ofInt IntKind.i64.bits (IntKind.i64.wrap ((↑A : Int) * (2 : Int) ^ min (Int.toNat (6 : Int)) IntKind.i64.bits)) ||| BitVec.ofInt IntKind.i64.bits (b64I (iE (es.getD j AV.unk)))).toNat : Int) ∧ c80.toNat < (2 : Nat) ^ (IntKind.i64.wrap ((↑N : Int) + (6 : Int))).toNat ∧ out.length ≤ c82.toNat ∧ (5 : TypeId) = (5 : TypeId))) then k (Ex.exit (0 : Nat)) [AV.slv (Sh.int IntKind.u8) cs, AV.ptr 1 0, AV.own 900, AV.int IntKind.i64 (↑c85.snd.fst : Int), AV.int IntKind.i64 (↑c85.snd.snd.fst : Int), AV.slv (Sh.int IntKind.u8) es, AV.int IntKind.i64 (↑es.length : Int), AV.int IntKind.i64 (IntKind.i64.wrap ((↑j : Int) + (1 : Int)) + (↑c85.snd.snd.snd : Int))] [some c84, some (Row.arr false (Sh.int IntKind.u8) (5 : Nat) (out ++ c85.fst) none)] else none else none else none else k (Ex.exit (0 : Nat)) c86 [some c84, some (Row.arr false (Sh.int IntKind.u8) (5 : Nat) out none)]) (by kernel_rfl) ?_
    conv => zeta
    rw [← hk]
    by_cases hlt : j < es.length
    · obtain ⟨e1, e2, e3, e4, e5⟩ := cnt_facts hlt hs
      have hNp : (2 : Nat) ^ N ≤ 128 := Nat.le_trans (Nat.pow_le_pow_right (by decide) (show N ≤ 7 by omega)) (by decide)
      have hb6 := b64I_lt (iE (es.getD j .unk))
      have ej : ∀ q : Nat, ((j + 1 : Nat) : Int) + (q : Nat) = (j : Int) + ((q + 1 : Nat) : Int) := fun q => by omega
      rw [drop_getD hlt]
      rw [bD_cons]
      simp only [e1, e2, e3, e4, e5, hbb, Int.toNat_natCast, cond_true, Bool.true_and, ej]
      cases h61 : iE (es.getD j .unk) == 61
      · cases hng : decide (b64I (iE (es.getD j .unk)) < 0)
        · obtain ⟨v, hv⟩ : ∃ v : Nat, b64I (iE (es.getD j .unk)) = v := ⟨(b64I (iE (es.getD j .unk))).toNat, by have := of_decide_eq_false hng; omega⟩
          simp only [hv, Int.toNat_natCast, cond_false, or6 (show A < 256 by omega) (show v < 64 by omega)]
          have w6 : IntKind.i64.wrap ((N : Int) + 6) = ((N + 6 : Nat) : Int) := by rw [wrap_small _ (by omega) (by omega)]; omega
          have hx : A * 64 + v < 16384 := by omega
          unfold st79
          by_cases h8 : N + 6 ≥ 8
          · have w8 : IntKind.i64.wrap (((N + 6 : Nat) : Int) - 8) = ((N - 2 : Nat) : Int) := by rw [wrap_small _ (by omega) (by omega)]; omega
            have hpw : 256 * 2 ^ (N - 2) = 64 * 2 ^ N := by
              obtain ⟨q, rfl⟩ : ∃ q, N = q + 2 := ⟨N - 2, by omega⟩
              rw [Nat.add_sub_cancel, Nat.pow_add]; omega
            have hm := Nat.mod_lt (A * 64 + v) (Nat.pow_pos (n := N - 2) (show 0 < 2 by decide))
            have d8 : decide (((N + 6 : Nat) : Int) ≥ 8) = true := decide_eq_true (by omega)
            have d0 : decide (((N - 2 : Nat) : Int) < 0) = false := decide_eq_false (by omega)
            have r1 : ∀ x : AV, roomB (out.length + [x].length) (Tryz.prog.bytesOf 5) = true := fun x => room5 (by show _ + 1 ≤ _; omega)
            have lo := low_n hx (show N - 2 < 8 by omega)
            have hi := high_n (show A * 64 + v < 256 * 2 ^ (N - 2) by omega) (show N - 2 < 8 by omega)
            rw [Int.toNat_natCast] at lo hi
            simp only [w6, w8, lo, hi, d8, d0, r1, decide_eq_true h8, cond_true, cond_false, Int.toNat_natCast]
            refine Eq.trans (cond_t (decide_eq_true ⟨hb, by omega, by omega, by omega, hm, by rw [List.length_append]; show _ + 1 ≤ _; omega, trivial⟩)) ?_
            rw [List.append_assoc]
            rfl
          · have d8 : decide (((N + 6 : Nat) : Int) ≥ 8) = false := decide_eq_false (by omega)
            have hpw : A * 64 + v < 2 ^ (N + 6) := by rw [Nat.pow_add]; omega
            simp only [w6, d8, decide_eq_false h8, cond_false, Int.toNat_natCast]
            exact Eq.trans (cond_t (decide_eq_true ⟨hb, by omega, by omega, by omega, hpw, by omega, trivial⟩)) rfl
        · simp only [cond_false, cond_true]
          refine Eq.trans (cond_t (decide_eq_true ⟨hb, by omega, by omega, by omega, ha8, by omega, trivial⟩)) rfl
      · simp only [cond_true]
        show k _ _ _ = k (.exit 0) [.slv (.int .u8) cs, .ptr 1 0, .own 900, .int .i64 (A : Nat), .int .i64 (N : Nat), .slv (.int .u8) es, .int .i64 es.length, .int .i64 ((j : Int) + ((0 : Nat) : Int))] [some (.box false [.int .i64 0, .int .i64 0]), some (.arr false (.int .u8) 5 (out ++ []) none)]
        rw [List.append_nil, show ∀ x : Int, x + ((0 : Nat) : Int) = x from Int.add_zero]
    · obtain rfl : j = es.length := by omega
      rw [decide_eq_false (by omega), List.drop_length]
      show k _ _ _ = k (.exit 0) [.slv (.int .u8) cs, .ptr 1 0, .own 900, .int .i64 (A : Nat), .int .i64 (N : Nat), .slv (.int .u8) es, .int .i64 es.length, .int .i64 ((es.length : Int) + ((0 : Nat) : Int))] [some (.box false [.int .i64 0, .int .i64 0]), some (.arr false (.int .u8) 5 (out ++ []) none)]
      rw [List.append_nil, show ∀ x : Int, x + ((0 : Nat) : Int) = x from Int.add_zero]
  · cases h
def F79 : List AV → Tr AV
  | [.slv (.int .u8) es] => .gd (small es.length && es.all bE) (.br (decide ((es.length : Int) > 24000)) (.leaf (.tup [.slv (.int .u8) [], .agg [.int .i64 1, .int .i64 (-1)]])) (.leaf (.tup [.slv (.int .u8) (bD es 0 0).1, .agg [.int .i64 0, .int .i64 0]])))
  | _ => .no
theorem ok79 : SumOK Tryz.prog 79 (ofT F79) ∧ SNat (ofT F79) := by
  refine fn1 (K := [(6, l79)]) (b := b79) (l := l79) g79 Tryz.func79 (by kernel_rfl) (by kernel_rfl) loop79 fun ρ avs k r h => ?_
  unfold F79 at h
  split at h
  · rename_i es
    obtain ⟨hc, hk⟩ := gd_some h
    obtain ⟨hs, hall⟩ := (Bool.and_eq_true _ _).mp hc
    refine Eq.trans (b := bif decide ((↑es.length : Int) > (24000 : Int)) then k (AV.tup [AV.slv (Sh.int IntKind.u8) [], AV.agg [AV.int IntKind.i64 1, AV.int IntKind.i64 (-1 : Int)]]) else bif cnt (↑es.length : Int) (0 : Int) es.length && (es.all bE && decide (es.length ≤ (24000 : Nat) ∧ (0 : Int) ≤ (0 : Int) ∧ (0 : Int) < (8 : Int) ∧ (0 : Int) ≤ (0 : Int) ∧ Int.toNat (0 : Int) < (2 : Nat) ^ Int.toNat (0 : Int) ∧ ([] : List AV).length ≤ Int.toNat (0 : Int) ∧ ((4 : Nat), (900 : Nat), (5 : TypeId)).snd.snd = (5 : TypeId))) then k (AV.tup [AV.slv (Sh.int IntKind.u8) ([] ++ (bD (List.drop (0 : Nat) es) (0 : Nat) (0 : Nat)).fst), AV.agg [AV.int IntKind.i64 0, AV.int IntKind.i64 0]]) else none) (by kernel_rfl) ?_
    rw [← hk, hall]
    show _ = (bif decide ((es.length : Int) > 24000) then _ else _)
    cases hd : decide ((es.length : Int) > 24000)
    · have := of_decide_eq_false hd
      exact cond_t (and_t (cnt_zero hs) (and_t rfl (decide_eq_true ⟨by omega, by omega, by omega, by omega, Nat.one_pos, Nat.le_refl 0, rfl⟩)))
    · rfl
  · cases h
end Go.Proofs.YtpmlhkoianekfaaGreatDoor


namespace Go.Proofs.YtpmlhkoianekfaaGreatDoor
open Go.Ev
noncomputable def G121 : Env := { pure := [(15, ofT F15)] }
theorem g121 : GOK Tryz.prog G121 := GOK.also g0 ok15
def F121 : List AV → Tr AV
  | [.slv (.int .u8) es] => .gd (decide (es.length ≤ 100000000000)) (.leaf (.tup [.slv (.int .u8) es, .agg [.int .i64 0, .int .i64 0]]))
  | _ => .no
theorem ok121 : SumOK Tryz.prog 121 (ofT F121) ∧ SNat (ofT F121) := by
  refine fn0 g121 Tryz.func121 (by kernel_rfl) fun ρ avs k r h => ?_
  unfold F121 at h
  split at h
  · rename_i es
    obtain ⟨hc, hk⟩ := gd_some h
    refine Eq.trans (b := bif roomB es.length (Tryz.prog.bytesOf (5 : Nat)) then k (AV.tup [AV.slv (Sh.int IntKind.u8) es, AV.agg [AV.int IntKind.i64 (0 : Int), AV.int IntKind.i64 (0 : Int)]]) else none) (by kernel_rfl) ?_
    rw [← hk]
    exact cond_t (room5 (by have := of_decide_eq_true hc; omega))
  · cases h
noncomputable def G44 : Env := { pure := [(69, ofT F69), (19, ofT F19)] }
theorem g44 : GOK Tryz.prog G44 := GOK.also (GOK.also g0 ok19) ok69
def nmF (s : List UInt8) : Bool := fdC s [] == 0
def F44 : List AV → Tr AV
  | [.str s] => .gd (small s.length) (.leaf (.bool (nmF s)))
  | _ => .no
theorem ok44 : SumOK Tryz.prog 44 (ofT F44) ∧ SNat (ofT F44) := by
  refine fn0 g44 Tryz.func44 (by kernel_rfl) fun ρ avs k r h => ?_
  unfold F44 at h
  split at h
  · rename_i s
    obtain ⟨hc, hk⟩ := gd_some h
    refine Eq.trans (b := bif small s.length && small ([] : List UInt8).length then k (AV.bool !fdC s ([] : List UInt8) != (0 : Int)) else none) (by kernel_rfl) ?_
    rw [← hk]
    refine Eq.trans (cond_t (and_t hc rfl)) ?_
    unfold nmF
    show k (.bool (!!(fdC s [] == 0))) = _
    rw [Bool.not_not]
    rfl
  · cases h
noncomputable def G20 : Env := { pure := [(43, ofT F43), (44, ofT F44), (19, ofT F19), (13, ofT F13), (15, ofT F15)] }
theorem g20 : GOK Tryz.prog G20 := GOK.also (GOK.also (GOK.also (GOK.also (GOK.also g0 ok15) ok13) ok19) ok44) ok43
def vl20C (es : List AV) (s : List UInt8) : Int := bif hvC es == 0 then (bif nmF s then 0 else 10) else hvC es
def vl20I (es : List AV) (s : List UInt8) : Int := bif hvC es == 0 then (bif nmF s then 0 else -3) else hvI es
def F20 : List AV → Tr AV
  | [.slv (.agg [.str, .str]) es, .str s] => .gd (small es.length && (es.all okF && small s.length)) (.leaf (.agg [.int .i64 (vl20C es s), .int .i64 (vl20I es s)]))
  | _ => .no
theorem ok20 : SumOK Tryz.prog 20 (ofT F20) ∧ SNat (ofT F20) := by
  refine fn0 g20 Tryz.func20 (by kernel_rfl) fun ρ avs k r h => ?_
  unfold F20 at h
  split at h
  · rename_i es s
    obtain ⟨hc, hk⟩ := gd_some h
    refine Eq.trans (b := bif small es.length && es.all okF then bif hvC es != (0 : Int) then k (AV.agg [AV.int IntKind.i64 (hvC es), AV.int IntKind.i64 (hvI es)]) else bif small s.length then bif !nmF s then k (AV.agg [AV.int IntKind.i64 10, AV.int IntKind.i64 (-3 : Int)]) else k (AV.agg [AV.int IntKind.i64 0, AV.int IntKind.i64 0]) else none else none) (by kernel_rfl) ?_
    rw [← hk]
    simp only [Bool.and_eq_true] at hc
    obtain ⟨h1, h2, h3⟩ := hc
    refine Eq.trans (cond_t (and_t h1 h2)) ?_
    show (bif !(hvC es == 0) then _ else _) = _
    unfold vl20C vl20I
    cases hvC es == 0
    · rfl
    · refine Eq.trans (cond_f rfl) (Eq.trans (cond_t h3) ?_)
      cases nmF s <;> rfl
  · cases h
end Go.Proofs.YtpmlhkoianekfaaGreatDoor


namespace Go.Proofs.YtpmlhkoianekfaaGreatDoor
open Go.Ev
def F82 : List AV → Tr AV
  | [.int .u8 c] => .leaf (.bool (isB' c))
  | _ => .no
theorem ok82 : SumOK Tryz.prog 82 (ofT F82) ∧ SNat (ofT F82) := by
  refine fn0 g0 Tryz.func82 (by kernel_rfl) fun ρ avs k r h => ?_
  unfold F82 at h
  split at h
  · rename_i c
    have hk := h
    refine Eq.trans (b := bif c == (32 : Int) then k (AV.bool true) else k (AV.bool (c == (9 : Int)))) (by kernel_rfl) ?_
    rw [← hk]
    unfold isB'
    cases c == 32 <;> rfl
  · cases h
def crAt (es : List AV) (i : Nat) : Bool := decide (i + 1 < es.length) && (iE (es.getD i .unk) == 13 && iE (es.getD (i + 1) .unk) == 10)
def F49 : List AV → Tr AV
  | [.slv (.int .u8) es, .int .i64 i] => .gd (small es.length && decide (0 ≤ i ∧ i ≤ es.length ∧ es.length ≤ 1000000000000)) (.leaf (.bool (crAt es i.toNat)))
  | _ => .no
theorem ok49 : SumOK Tryz.prog 49 (ofT F49) ∧ SNat (ofT F49) := by
  refine fn0 g0 Tryz.func49 (by kernel_rfl) fun ρ avs k r h => ?_
  unfold F49 at h
  split at h
  · rename_i es i
    obtain ⟨hc, hk⟩ := gd_some h
    refine Eq.trans (b := bif decide (IntKind.i64.wrap (i + (1 : Int)) < (↑es.length : Int)) then bif inb i es.length then bif (iE (es.getD i.toNat AV.unk)) == (13 : Int) then bif inb (IntKind.i64.wrap (i + (1 : Int))) es.length then k (AV.bool ((iE (es.getD (IntKind.i64.wrap (i + (1 : Int))).toNat AV.unk)) == (10 : Int))) else none else k (AV.bool false) else none else k (AV.bool false)) (by kernel_rfl) ?_
    rw [← hk]
    simp only [Bool.and_eq_true, decide_eq_true_eq] at hc
    obtain ⟨h0, h1, h2, h3⟩ := hc
    obtain ⟨j, rfl⟩ : ∃ j : Nat, i = j := ⟨i.toNat, by omega⟩
    have w : IntKind.i64.wrap ((j : Int) + 1) = ((j + 1 : Nat) : Int) := by rw [wrap_small _ (by omega) (by omega)]; omega
    rw [w]
    unfold crAt
    rw [Int.toNat_natCast]
    by_cases hl : j + 1 < es.length
    · have d1 : decide (((j + 1 : Nat) : Int) < (es.length : Int)) = true := decide_eq_true (by omega)
      have i0 : inb (j : Int) es.length = true := inb_true (by omega) (by omega)
      have i1 : inb ((j + 1 : Nat) : Int) es.length = true := inb_true (by omega) (by omega)
      rw [d1, i0, i1, decide_eq_true hl, Int.toNat_natCast]
      cases iE (es.getD j .unk) == 13 <;> rfl
    · have d1 : decide (((j + 1 : Nat) : Int) < (es.length : Int)) = false := decide_eq_false (by omega)
      rw [d1, decide_eq_false hl]
      rfl
  · cases h
end Go.Proofs.YtpmlhkoianekfaaGreatDoor


namespace Go.Proofs.YtpmlhkoianekfaaGreatDoor
open Go.Ev
noncomputable def b126 : Code := ((Tryz.f126.body.map loopsOf).getD []).headD .skip
def hitN (c : Int) (s : List UInt8) (i : Nat) : Bool := atI s i == c
def L126 : List AV → List (Option Row) → Tr LOut
  | [.int .u8 c, .str s, .bool r, .int .i64 i], [] =>
    .gd (cnt s.length i s.length) (sT (hitN c s) s.length (fun q => .leaf (.ret, [.int .u8 c, .str s, .bool true, .int .i64 (q : Nat)], [])) (.leaf (.exit 0, [.int .u8 c, .str s, .bool r, .int .i64 s.length], [])) i.toNat)
  | _, _ => .no
def l126 : Ev.Loop := ⟨{ len := 17, slots := [0, 1, 4, 5] }, ofL L126⟩
def μ126 (vs : List AV) (_ : List (Option Row)) : Nat := match vs with
  | [_, .str s, _, .int _ i] => ((s.length : Int) - i).toNat
  | _ => 0
theorem loop126 : LoopOK Tryz.prog G0 [(2, l126)] b126 l126 := by
  refine loopT g0.natOK rfl (KOK.nil (by kernel_rfl)) μ126 (fun ρ vs rs k r h => ?_)
  unfold L126 at h
  split at h
  · rename_i c s b i
    obtain ⟨hc, hk⟩ := gd_some h
    obtain ⟨-, hs, j, rfl, hj⟩ := cnt_spec hc
    rw [Int.toNat_natCast] at hk
    refine Eq.trans (b := bif decide ((↑j : Int) < (↑s.length : Int)) then bif inb (↑j : Int) s.length then bif (↑(s.getD j (0 : UInt8)).toNat : Int) == c then k Ex.ret [AV.int IntKind.u8 c, AV.str s, AV.bool true, AV.int IntKind.i64 (↑j : Int)] [] else bif decide (((↑s.length : Int) - IntKind.i64.wrap ((↑j : Int) + (1 : Int))).toNat < ((↑s.length : Int) - (↑j : Int)).toNat) then bif cnt (↑s.length : Int) (IntKind.i64.wrap ((↑j : Int) + (1 : Int))) s.length then bif (findN (hitN c s) s.length (IntKind.i64.wrap ((↑j : Int) + (1 : Int))).toNat).isSome then k Ex.ret [AV.int IntKind.u8 c, AV.str s, AV.bool true, AV.int IntKind.i64 (↑((findN (hitN c s) s.length (IntKind.i64.wrap ((↑j : Int) + (1 : Int))).toNat).getD (0 : Nat)) : Int)] [] else k (Ex.exit (0 : Nat)) [AV.int IntKind.u8 c, AV.str s, AV.bool b, AV.int IntKind.i64 (↑s.length : Int)] [] else none else none else none else k (Ex.exit (0 : Nat)) [AV.int IntKind.u8 c, AV.str s, AV.bool b, AV.int IntKind.i64 (↑j : Int)] []) (by kernel_rfl) ?_
    rw [← hk]
    by_cases hlt : j < s.length
    · obtain ⟨e1, e2, e3, e4, e5⟩ := cnt_facts hlt hs
      rw [sT_step _ _ _ _ _ hlt]
      simp only [e1, e2, e3, e4, e5, cond_true, Int.toNat_natCast]
      rfl
    · obtain rfl : j = s.length := by omega
      rw [decide_eq_false (by omega), sT_end]
      rfl
  · cases h
def oneB (c : Int) (s : List UInt8) : Bool := (findN (hitN c s) s.length 0).isSome
def F126 : List AV → Tr AV
  | [.int .u8 c, .str s] => .gd (small s.length) (.leaf (.bool (oneB c s)))
  | _ => .no
theorem ok126 : SumOK Tryz.prog 126 (ofT F126) ∧ SNat (ofT F126) := by
  refine fn1 (K := [(2, l126)]) (b := b126) (l := l126) g0 Tryz.func126 (by kernel_rfl) (by kernel_rfl) loop126 fun ρ avs k r h => ?_
  unfold F126 at h
  split at h
  · rename_i c s
    obtain ⟨hc, hk⟩ := gd_some h
    refine Eq.trans (b := bif cnt (↑s.length : Int) (0 : Int) s.length then bif (findN (hitN c s) s.length (0 : Nat)).isSome then k (AV.bool true) else k (AV.bool false) else none) (by kernel_rfl) ?_
    rw [← hk, cnt_zero hc]
    unfold oneB
    cases (findN (hitN c s) s.length 0).isSome <;> rfl
  · cases h
noncomputable def G125 : Env := { pure := [(176, ofT F176)] }
theorem g125 : GOK Tryz.prog G125 := GOK.also g0 ok176
noncomputable def b125 : Code := ((Tryz.f125.body.map loopsOf).getD []).headD .skip
def badN (s : List UInt8) (i : Nat) : Bool := !inR (atI s i) 33 126 || atI s i == 58
def L125 : List AV → List (Option Row) → Tr LOut
  | [.str s, .bool r, .int .i64 i], [] =>
    .gd (cnt s.length i s.length) (sT (badN s) s.length (fun q => .leaf (.ret, [.str s, .bool false, .int .i64 (q : Nat)], [])) (.leaf (.exit 0, [.str s, .bool r, .int .i64 s.length], [])) i.toNat)
  | _, _ => .no
def l125 : Ev.Loop := ⟨{ len := 25, slots := [0, 2, 3] }, ofL L125⟩
def μ125 (vs : List AV) (_ : List (Option Row)) : Nat := match vs with
  | [.str s, _, .int _ i] => ((s.length : Int) - i).toNat
  | _ => 0
theorem loop125 : LoopOK Tryz.prog G125 [(2, l125)] b125 l125 := by
  refine loopT g125.natOK rfl (KOK.nil (by kernel_rfl)) μ125 (fun ρ vs rs k r h => ?_)
  unfold L125 at h
  split at h
  · rename_i s b i
    obtain ⟨hc, hk⟩ := gd_some h
    obtain ⟨-, hs, j, rfl, hj⟩ := cnt_spec hc
    rw [Int.toNat_natCast] at hk
    refine Eq.trans (b := bif decide ((↑j : Int) < (↑s.length : Int)) then bif inb (↑j : Int) s.length then bif !inR (IntKind.i64.wrap (↑(s.getD j (0 : UInt8)).toNat : Int)) (33 : Int) (126 : Int) then k Ex.ret [AV.str s, AV.bool false, AV.int IntKind.i64 (↑j : Int)] [] else bif inb (↑j : Int) s.length then bif (↑(s.getD j (0 : UInt8)).toNat : Int) == (58 : Int) then k Ex.ret [AV.str s, AV.bool false, AV.int IntKind.i64 (↑j : Int)] [] else bif decide (((↑s.length : Int) - IntKind.i64.wrap ((↑j : Int) + (1 : Int))).toNat < ((↑s.length : Int) - (↑j : Int)).toNat) then bif cnt (↑s.length : Int) (IntKind.i64.wrap ((↑j : Int) + (1 : Int))) s.length then bif (findN (badN s) s.length (IntKind.i64.wrap ((↑j : Int) + (1 : Int))).toNat).isSome then k Ex.ret [AV.str s, AV.bool false, AV.int IntKind.i64 (↑((findN (badN s) s.length (IntKind.i64.wrap ((↑j : Int) + (1 : Int))).toNat).getD (0 : Nat)) : Int)] [] else k (Ex.exit (0 : Nat)) [AV.str s, AV.bool b, AV.int IntKind.i64 (↑s.length : Int)] [] else none else none else none else none else k (Ex.exit (0 : Nat)) [AV.str s, AV.bool b, AV.int IntKind.i64 (↑j : Int)] []) (by kernel_rfl) ?_
    rw [← hk]
    by_cases hlt : j < s.length
    · obtain ⟨e1, e2, e3, e4, e5⟩ := cnt_facts hlt hs
      rw [sT_step _ _ _ _ _ hlt]
      have hb : badN s j = (!inR (atI s j) 33 126 || atI s j == 58) := rfl
      have hx : (((s.getD j (0 : UInt8)).toNat : Nat) : Int) = atI s j := rfl
      have hr := atI_r s j
      have hw : IntKind.i64.wrap (atI s j) = atI s j := wrap_small _ (by omega) (by omega)
      rw [hb]
      simp only [e1, e2, e3, e4, e5, hx, hw, cond_true, Int.toNat_natCast]
      cases inR (atI s j) 33 126 <;> cases atI s j == 58 <;> rfl
    · obtain rfl : j = s.length := by omega
      rw [decide_eq_false (by omega), sT_end]
      rfl
  · cases h
def fnD (s : List UInt8) : Bool := bif (findN (badN s) s.length 0).isSome then false else inR s.length 1 60
def F125 : List AV → Tr AV
  | [.str s] => .gd (small s.length) (.leaf (.bool (fnD s)))
  | _ => .no
theorem ok125 : SumOK Tryz.prog 125 (ofT F125) ∧ SNat (ofT F125) := by
  refine fn1 (K := [(2, l125)]) (b := b125) (l := l125) g125 Tryz.func125 (by kernel_rfl) (by kernel_rfl) loop125 fun ρ avs k r h => ?_
  unfold F125 at h
  split at h
  · rename_i s
    obtain ⟨hc, hk⟩ := gd_some h
    refine Eq.trans (b := bif cnt (↑s.length : Int) (0 : Int) s.length then bif (findN (badN s) s.length (0 : Nat)).isSome then k (AV.bool false) else k (AV.bool (inR (↑s.length : Int) (1 : Int) (60 : Int))) else none) (by kernel_rfl) ?_
    rw [← hk, cnt_zero hc]
    unfold fnD
    cases (findN (badN s) s.length 0).isSome <;> rfl
  · cases h
noncomputable def G127 : Env := { pure := [(82, ofT F82)] }
theorem g127 : GOK Tryz.prog G127 := GOK.also g0 ok82
noncomputable def b127 : Code := ((Tryz.f127.body.map loopsOf).getD []).headD .skip
noncomputable def c127 : Code := (((Tryz.f127.body.map loopsOf).getD []).tail).headD .skip
def trL : List UInt8 → List UInt8
  | [] => []
  | c :: t => bif isB' (c.toNat : Int) then trL t else c :: t
def trR : Nat → List UInt8 → List UInt8
  | 0, s => s
  | n + 1, s => bif isB' (atI s (s.length - 1)) then trR n (s.take (s.length - 1)) else s
theorem trL_len : ∀ s : List UInt8, (trL s).length ≤ s.length
  | [] => Nat.le_refl _
  | c :: t => by
    show (bif isB' (c.toNat : Int) then trL t else c :: t).length ≤ _
    cases isB' (c.toNat : Int)
    · exact Nat.le_refl _
    · exact Nat.le_trans (trL_len t) (Nat.le_succ _)
def L127 : List AV → List (Option Row) → Tr LOut
  | [.str s, .str r], [] => .gd (small s.length) (.leaf (.exit 0, [.str (trL s), .str r], []))
  | _, _ => .no
def l127 : Ev.Loop := ⟨{ len := 30, slots := [0, 2] }, ofL L127⟩
def μ127 (vs : List AV) (_ : List (Option Row)) : Nat := match vs with
  | [.str s, _] => s.length
  | _ => 0
theorem loop127 : LoopOK Tryz.prog G127 [(1, l127)] b127 l127 := by
  refine loopT g127.natOK rfl (KOK.nil (by kernel_rfl)) μ127 (fun ρ vs rs k r h => ?_)
  unfold L127 at h
  split at h
  · rename_i s b
    obtain ⟨hc, hk⟩ := gd_some h
    have hs : s.length ≤ 9223372036854775807 := of_decide_eq_true hc
    refine Eq.trans (b := have c80 := (List.take ((↑s.length : Int).toNat - Int.toNat (1 : Int)) (List.drop (Int.toNat (1 : Int)) s)); bif decide ((↑s.length : Int) > (0 : Int)) then bif inb (0 : Int) s.length then bif isB' (↑(s.getD (0 : Nat) (0 : UInt8)).toNat : Int) then bif slb (1 : Int) (↑s.length : Int) s.length then bif decide (c80.length < s.length) then bif small c80.length then k (Ex.exit (0 : Nat)) [AV.str (trL c80), AV.str b] [] else none else none else none else k (Ex.exit (0 : Nat)) [AV.str s, AV.str b] [] else none else k (Ex.exit (0 : Nat)) [AV.str s, AV.str b] []) (by kernel_rfl) ?_
    conv => zeta
    rw [← hk]
    cases s with
    | nil => rfl
    | cons c t =>
      have hl : (c :: t).length = t.length + 1 := rfl
      have d0 : decide (((c :: t).length : Int) > 0) = true := decide_eq_true (by omega)
      have i0 : inb 0 (c :: t).length = true := inb_true (by omega) (by omega)
      have s1 : slb 1 ((c :: t).length : Int) (c :: t).length = true := slb_true (by omega) (by omega) (by omega)
      have t1 : List.take (((c :: t).length : Int).toNat - Int.toNat 1) (List.drop (Int.toNat 1) (c :: t)) = t := by
        rw [Int.toNat_natCast, hl]
        show List.take (t.length + 1 - 1) t = t
        rw [Nat.add_sub_cancel, List.take_length]
      have m1 : decide (t.length < (c :: t).length) = true := decide_eq_true (by omega)
      have hst : small t.length = true := decide_eq_true (by omega)
      have hg : (((c :: t).getD 0 (0 : UInt8)).toNat : Int) = (c.toNat : Int) := rfl
      have z0 : Int.toNat 0 = 0 := rfl
      simp only [d0, i0, s1, t1, m1, hst, cond_true]
      simp only [hg]
      have e : trL (c :: t) = bif isB' (c.toNat : Int) then trL t else c :: t := rfl
      rw [e]
      cases isB' (c.toNat : Int) <;> rfl
  · cases h
def L127b : List AV → List (Option Row) → Tr LOut
  | [.str s, .str r], [] => .gd (small s.length) (.leaf (.exit 2, [.str (trR s.length s), .str r], []))
  | _, _ => .no
def l127b : Ev.Loop := ⟨{ len := 30, slots := [0, 2] }, ofL L127b⟩
theorem loop127b : LoopOK Tryz.prog G127 [(3, l127b)] c127 l127b := by
  refine loopT g127.natOK rfl (KOK.nil (by kernel_rfl)) μ127 (fun ρ vs rs k r h => ?_)
  unfold L127b at h
  split at h
  · rename_i s b
    obtain ⟨hc, hk⟩ := gd_some h
    have hs : s.length ≤ 9223372036854775807 := of_decide_eq_true hc
    refine Eq.trans (b := have c81 := (IntKind.i64.wrap ((↑s.length : Int) - (1 : Int))); have c80 := (List.take (c81.toNat - Int.toNat (0 : Int)) (List.drop (0 : Nat) s)); bif decide ((↑s.length : Int) > (0 : Int)) then bif inb c81 s.length then bif isB' (↑(s.getD c81.toNat (0 : UInt8)).toNat : Int) then bif slb (0 : Int) c81 s.length then bif decide (c80.length < s.length) then bif small c80.length then k (Ex.exit (2 : Nat)) [AV.str (trR c80.length c80), AV.str b] [] else none else none else none else k (Ex.exit (2 : Nat)) [AV.str s, AV.str b] [] else none else k (Ex.exit (2 : Nat)) [AV.str s, AV.str b] []) (by kernel_rfl) ?_
    conv => zeta
    rw [← hk]
    by_cases h0 : 0 < s.length
    · have d0 : decide ((s.length : Int) > 0) = true := decide_eq_true (by omega)
      have w1 : IntKind.i64.wrap ((s.length : Int) - 1) = ((s.length - 1 : Nat) : Int) := by rw [wrap_small _ (by omega) (by omega)]; omega
      have i0 : inb ((s.length - 1 : Nat) : Int) s.length = true := inb_true (by omega) (by omega)
      have s1 : slb 0 ((s.length - 1 : Nat) : Int) s.length = true := slb_true (by omega) (by omega) (by omega)
      have t1 : List.take (s.length - 1 - Int.toNat 0) (List.drop 0 s) = s.take (s.length - 1) := rfl
      have hl : (s.take (s.length - 1)).length = s.length - 1 := by rw [List.length_take]; omega
      have m1 : decide (s.length - 1 < s.length) = true := decide_eq_true (by omega)
      have hst : small (s.length - 1) = true := decide_eq_true (by omega)
      have hg : ((s.getD (s.length - 1) (0 : UInt8)).toNat : Int) = atI s (s.length - 1) := rfl
      have e : trR s.length s = bif isB' (atI s (s.length - 1)) then trR (s.length - 1) (s.take (s.length - 1)) else s := by
        conv => lhs; rw [show s.length = (s.length - 1) + 1 by omega]
        rfl
      simp only [d0, w1, i0, s1, Int.toNat_natCast, hg, cond_true]
      simp only [t1, hl, m1, hst, cond_true]
      rw [e]
      cases isB' (atI s (s.length - 1)) <;> rfl
    · obtain rfl : s = [] := List.eq_nil_of_length_eq_zero (by omega)
      rfl
  · cases h
def trD (s : List UInt8) : List UInt8 := trR (trL s).length (trL s)
def F127 : List AV → Tr AV
  | [.str s] => .gd (small s.length) (.leaf (.str (trD s)))
  | _ => .no
theorem ok127 : SumOK Tryz.prog 127 (ofT F127) ∧ SNat (ofT F127) := by
  refine fnT (K := [(1, l127), (3, l127b)]) g127 Tryz.func127 (bs := [b127, c127]) (by kernel_rfl) (fun b hb => ?_) fun ρ avs k r h => ?_
  · simp at hb
    rcases hb with rfl | rfl
    · exact ⟨l127, by kernel_rfl, loop127⟩
    · exact ⟨l127b, by kernel_rfl, loop127b⟩
  unfold F127 at h
  split at h
  · rename_i s
    obtain ⟨hc, hk⟩ := gd_some h
    have hs : s.length ≤ 9223372036854775807 := of_decide_eq_true hc
    refine Eq.trans (b := bif small s.length then bif small (trL s).length then k (AV.str (trR (trL s).length (trL s))) else none else none) (by kernel_rfl) ?_
    rw [← hk]
    exact Eq.trans (cond_t hc) (cond_t (decide_eq_true (Nat.le_trans (trL_len s) hs)))
  · cases h
noncomputable def G81 : Env := { pure := [(125, ofT F125), (126, ofT F126), (127, ofT F127)] }
theorem g81 : GOK Tryz.prog G81 := GOK.also (GOK.also (GOK.also g0 ok127) ok126) ok125
noncomputable def b81 : Code := ((Tryz.f81.body.map loopsOf).getD []).headD .skip
def endN (s : List UInt8) (i : Nat) : Bool := oneB (atI s i) [13, 10, 0]
def L81 : List AV → List (Option Row) → Tr LOut
  | [.str s, .int .i64 r, .int .i64 i], [] =>
    .gd (cnt s.length i s.length) (sT (endN s) s.length (fun q => .leaf (.ret, [.str s, .int .i64 11, .int .i64 (q : Nat)], [])) (.leaf (.exit 0, [.str s, .int .i64 r, .int .i64 s.length], [])) i.toNat)
  | _, _ => .no
def l81 : Ev.Loop := ⟨{ len := 26, slots := [1, 4, 5] }, ofL L81⟩
def μ81 (vs : List AV) (_ : List (Option Row)) : Nat := match vs with
  | [.str s, _, .int _ i] => ((s.length : Int) - i).toNat
  | _ => 0
theorem loop81 : LoopOK Tryz.prog G81 [(6, l81)] b81 l81 := by
  refine loopT g81.natOK rfl (KOK.nil (by kernel_rfl)) μ81 (fun ρ vs rs k r h => ?_)
  unfold L81 at h
  split at h
  · rename_i s b i
    obtain ⟨hc, hk⟩ := gd_some h
    obtain ⟨-, hs, j, rfl, hj⟩ := cnt_spec hc
    rw [Int.toNat_natCast] at hk
    refine Eq.trans (b := bif decide ((↑j : Int) < (↑s.length : Int)) then bif inb (↑j : Int) s.length then bif oneB (↑(s.getD j (0 : UInt8)).toNat : Int) ([13, 10, 0] : List UInt8) then k Ex.ret [AV.str s, AV.int IntKind.i64 11, AV.int IntKind.i64 (↑j : Int)] [] else bif decide (((↑s.length : Int) - IntKind.i64.wrap ((↑j : Int) + (1 : Int))).toNat < ((↑s.length : Int) - (↑j : Int)).toNat) then bif cnt (↑s.length : Int) (IntKind.i64.wrap ((↑j : Int) + (1 : Int))) s.length then bif (findN (endN s) s.length (IntKind.i64.wrap ((↑j : Int) + (1 : Int))).toNat).isSome then k Ex.ret [AV.str s, AV.int IntKind.i64 11, AV.int IntKind.i64 (↑((findN (endN s) s.length (IntKind.i64.wrap ((↑j : Int) + (1 : Int))).toNat).getD (0 : Nat)) : Int)] [] else k (Ex.exit (0 : Nat)) [AV.str s, AV.int IntKind.i64 b, AV.int IntKind.i64 (↑s.length : Int)] [] else none else none else none else k (Ex.exit (0 : Nat)) [AV.str s, AV.int IntKind.i64 b, AV.int IntKind.i64 (↑j : Int)] []) (by kernel_rfl) ?_
    rw [← hk]
    by_cases hlt : j < s.length
    · obtain ⟨e1, e2, e3, e4, e5⟩ := cnt_facts hlt hs
      rw [sT_step _ _ _ _ _ hlt]
      have hb : endN s j = oneB (atI s j) [13, 10, 0] := rfl
      have hx : (((s.getD j (0 : UInt8)).toNat : Nat) : Int) = atI s j := rfl
      rw [hb]
      simp only [e1, e2, e3, e4, e5, hx, cond_true, Int.toNat_natCast]
      rfl
    · obtain rfl : j = s.length := by omega
      rw [decide_eq_false (by omega), sT_end]
      rfl
  · cases h
def fcD (n v : List UInt8) : Int := bif !fnD n then 10 else bif decide ((v.length : Int) > 4000) then 1 else bif (findN (endN v) v.length 0).isSome then 11 else bif trD v != v then 11 else 0
def F81 : List AV → Tr AV
  | [.str n, .str v] => .gd (small n.length && small v.length) (.leaf (.int .i64 (fcD n v)))
  | _ => .no
theorem ok81 : SumOK Tryz.prog 81 (ofT F81) ∧ SNat (ofT F81) := by
  refine fn1 (K := [(6, l81)]) (b := b81) (l := l81) g81 Tryz.func81 (by kernel_rfl) (by kernel_rfl) loop81 fun ρ avs k r h => ?_
  unfold F81 at h
  split at h
  · rename_i n v
    obtain ⟨hc, hk⟩ := gd_some h
    obtain ⟨hn, hv⟩ := (Bool.and_eq_true _ _).mp hc
    refine Eq.trans (b := bif small n.length then bif !fnD n then k (AV.int IntKind.i64 10) else bif decide ((↑v.length : Int) > (4000 : Int)) then k (AV.int IntKind.i64 1) else bif cnt (↑v.length : Int) (0 : Int) v.length then bif (findN (endN v) v.length (0 : Nat)).isSome then k (AV.int IntKind.i64 11) else bif small v.length then bif !trD v == v then k (AV.int IntKind.i64 11) else k (AV.int IntKind.i64 0) else none else none else none) (by kernel_rfl) ?_
    rw [← hk, hn]
    unfold fcD
    refine Eq.trans (cond_t rfl) ?_
    cases fnD n
    · rfl
    · cases decide ((v.length : Int) > 4000)
      · refine Eq.trans (cond_f rfl) (Eq.trans (cond_f rfl) (Eq.trans (cond_t (cnt_zero hv)) ?_))
        rw [hv, show (trD v != v) = !(trD v == v) from rfl]
        cases (findN (endN v) v.length 0).isSome <;> cases trD v == v <;> rfl
      · rfl
  · cases h
end Go.Proofs.YtpmlhkoianekfaaGreatDoor


namespace Go.Proofs.YtpmlhkoianekfaaGreatDoor
open Go.Ev
def Byt (l : List AV) : Prop := ∀ x ∈ l, ∃ n : Nat, n < 256 ∧ x = .int .u8 (n : Int)
theorem byt_of {l : List AV} (h : l.all bE = true) : Byt l := fun x hx => by
  have hb := List.all_eq_true.1 h x hx
  unfold bE at hb
  obtain ⟨h1, h2⟩ := (Bool.and_eq_true _ _).mp hb
  obtain ⟨m, rfl⟩ : ∃ m, x = .int .u8 m := byte_of h1
  obtain ⟨a, b⟩ := inR_spec h2
  have e : (AV.int .u8 m).toInt = m := rfl
  rw [e] at a b
  exact ⟨m.toNat, by omega, by rw [Int.toNat_of_nonneg a]⟩
theorem Byt.tail {x : AV} {l : List AV} (h : Byt (x :: l)) : Byt l := fun y hy => h y (List.mem_cons_of_mem _ hy)
theorem Byt.app {l m : List AV} (h : Byt l) (h' : Byt m) : Byt (l ++ m) := fun y hy => (List.mem_append.1 hy).elim (h y) (h' y)
theorem u8_ne {n c : Nat} (hn : n < 256) (hc : c < 256) (h : n ≠ c) : (UInt8.ofNat n == UInt8.ofNat c) = false := by
  rw [Bool.eq_false_iff]
  intro e
  have e := congrArg UInt8.toNat (eq_of_beq e)
  rw [UInt8.toNat_ofNat', UInt8.toNat_ofNat'] at e
  omega
def Ln (l : List AV) : Prop := ∀ x ∈ l, iE x ≠ 10 ∧ iE x ≠ 13
theorem strAV_cons (n : Nat) (l : List AV) : strAV (.int .u8 (n : Int) :: l) = UInt8.ofNat n :: strAV l := rfl
theorem strAV_app (l m : List AV) : strAV (l ++ m) = strAV l ++ strAV m := by unfold strAV; rw [List.map_append]
theorem idx_ten : ∀ (P rest : List AV), Byt P → (∀ x ∈ P, iE x ≠ 10) → Lib.indexByte (strAV (P ++ .int .u8 10 :: rest)) 10 = P.length
  | [], rest, _, _ => rfl
  | x :: P, rest, hb, hl => by
    obtain ⟨n, hn, rfl⟩ := hb x (List.mem_cons_self ..)
    have h10 : n ≠ 10 := fun h => hl _ (List.mem_cons_self ..) (by rw [h]; rfl)
    have ih := idx_ten P rest hb.tail (fun y hy => hl y (List.mem_cons_of_mem _ hy))
    rw [List.cons_append, strAV_cons]
    unfold Lib.indexByte
    rw [ih, show (10 : UInt8) = UInt8.ofNat 10 from rfl, u8_ne hn (by decide) h10]
    have : (((P.length : Nat) : Int) == -1) = false := by rw [Bool.eq_false_iff]; intro h; have := eq_of_beq h; omega
    rw [this, List.length_cons]
    simp
theorem idx_none : ∀ (P : List AV), Byt P → (∀ x ∈ P, iE x ≠ 10) → Lib.indexByte (strAV P) 10 = -1
  | [], _, _ => rfl
  | x :: P, hb, hl => by
    obtain ⟨n, hn, rfl⟩ := hb x (List.mem_cons_self ..)
    have h10 : n ≠ 10 := fun h => hl _ (List.mem_cons_self ..) (by rw [h]; rfl)
    have ih := idx_none P hb.tail (fun y hy => hl y (List.mem_cons_of_mem _ hy))
    rw [strAV_cons]
    unfold Lib.indexByte
    rw [ih, show (10 : UInt8) = UInt8.ofNat 10 from rfl, u8_ne hn (by decide) h10]
    rfl
theorem iQ_ten {P rest : List AV} (hb : Byt P) (hl : ∀ x ∈ P, iE x ≠ 10) (hs : P.length ≤ 100000) : iQ (P ++ .int .u8 10 :: rest) = P.length + 1 := by
  unfold iQ
  rw [idx_ten P rest hb hl, wrap_small _ (by omega) (by omega)]
  have : (((P.length : Int) + 1) == 0) = false := by rw [Bool.eq_false_iff]; intro h; have := eq_of_beq h; omega
  rw [this, cond_false]
  omega
theorem iQ_no {P : List AV} (hb : Byt P) (hl : ∀ x ∈ P, iE x ≠ 10) : iQ P = P.length := by
  unfold iQ
  rw [idx_none P hb hl]
  rfl
theorem hsC_app (P : List AV) {n c : Nat} (hn : n < 256) (hc : c < 256) : hsC (P ++ [.int .u8 (n : Int)]) (c : Int) = decide (n = c) := by
  unfold hsC Lib.hasSuffix
  rw [strAV_app]
  show List.isSuffixOf [UInt8.ofNat c] (strAV P ++ [UInt8.ofNat n]) = _
  unfold List.isSuffixOf
  rw [List.reverse_append]
  show (UInt8.ofNat c == UInt8.ofNat n && List.isPrefixOf [] _) = _
  by_cases h : n = c
  · subst h
    rw [decide_eq_true rfl, beq_self_eq_true]
    simp
  · rw [decide_eq_false h, u8_ne hc hn (fun e => h e.symm)]
    rfl
theorem tsC_same (P : List AV) {c : Nat} (hc : c < 256) : tsC (P ++ [.int .u8 (c : Int)]) (c : Int) = P := by
  unfold tsC
  rw [hsC_app P hc hc, decide_eq_true rfl, cond_true, List.length_append]
  simp
theorem tsC_other {l : List AV} {c : Int} (h : hsC l c = false) : tsC l c = l := by unfold tsC; rw [h]; rfl
def Lst (l : List AV) : Prop := ∀ (P : List AV) (x : AV), l = P ++ [x] → iE x ≠ 32 ∧ iE x ≠ 9
def Lst61 (l : List AV) : Prop := ∀ (P : List AV) (x : AV), l = P ++ [x] → iE x ≠ 61
theorem list_last (l : List AV) : l = [] ∨ ∃ P x, l = P ++ [x] := by
  rcases List.eq_nil_or_concat l with h | ⟨P, x, h⟩
  · exact .inl h
  · exact .inr ⟨P, x, by rw [h, List.concat_eq_append]⟩
theorem lnC_id {l : List AV} (hb : Byt l) (h : Lst l) : lnC l = l := by
  rcases list_last l with rfl | ⟨P, x, rfl⟩
  · rfl
  · obtain ⟨h1, h2⟩ := h P x rfl
    obtain ⟨n, hn, rfl⟩ := hb x (List.mem_append.2 (.inr (List.mem_cons_self ..)))
    unfold lnC Lib.trimRightS
    have hc : ([32, 9] : List UInt8).contains (UInt8.ofNat n) = false := by
      have a1 := u8_ne hn (show 32 < 256 by decide) (fun e => h1 (by rw [e]; rfl))
      have a2 := u8_ne hn (show 9 < 256 by decide) (fun e => h2 (by rw [e]; rfl))
      show (UInt8.ofNat n == UInt8.ofNat 32 || (UInt8.ofNat n == UInt8.ofNat 9 || false)) = false
      rw [a1, a2]; rfl
    have hd : ((strAV (P ++ [AV.int .u8 (n : Int)])).reverse.dropWhile (([32, 9] : List UInt8).contains ·)) = (strAV (P ++ [AV.int .u8 (n : Int)])).reverse := by
      rw [strAV_app, List.reverse_append]
      show List.dropWhile _ (UInt8.ofNat n :: (strAV P).reverse) = UInt8.ofNat n :: (strAV P).reverse
      rw [List.dropWhile_cons, hc]
      rfl
    rw [hd, List.reverse_reverse, strAV_len, List.take_length]
theorem hs61 {l : List AV} (hb : Byt l) (h : Lst61 l) : hsC l 61 = false := by
  rcases list_last l with rfl | ⟨P, x, rfl⟩
  · rfl
  · obtain ⟨n, hn, rfl⟩ := hb x (List.mem_append.2 (.inr (List.mem_cons_self ..)))
    have := h P _ rfl
    rw [show (61 : Int) = ((61 : Nat) : Int) from rfl, hsC_app P hn (by decide)]
    exact decide_eq_false fun e => this (by rw [e]; rfl)
abbrev c13 : AV := .int .u8 13
abbrev c10 : AV := .int .u8 10
abbrev c61 : AV := .int .u8 61
theorem byt_lit {n : Nat} (h : n < 256) : Byt [.int .u8 (n : Int)] := fun x hx => by
  rw [List.mem_singleton] at hx
  exact ⟨n, h, hx⟩
theorem qD_line (T rest : List AV) (hb : Byt T) (h10 : ∀ x ∈ T, iE x ≠ 10) (hs : (T ++ c13 :: c10 :: rest).length ≤ 48000) :
    qD (T ++ c13 :: c10 :: rest) = (bif hsC (lnC T) 61 then pD ((lnC T).take ((lnC T).length - 1)) else pD (lnC T) ++ [c13, c10]) ++ qD rest := by
  have e : T ++ c13 :: c10 :: rest = (T ++ [c13]) ++ c10 :: rest := by simp
  have hl : (T ++ c13 :: c10 :: rest).length = T.length + 2 + rest.length := by simp; omega
  have hb' : Byt (T ++ [c13]) := hb.app (byt_lit (n := 13) (by decide))
  have h10' : ∀ x ∈ T ++ [c13], iE x ≠ 10 := fun x hx => by
    rcases List.mem_append.1 hx with h | h
    · exact h10 x h
    · rw [List.mem_singleton] at h; rw [h]; decide
  have hi : iQ (T ++ c13 :: c10 :: rest) = T.length + 2 := by
    rw [e, iQ_ten hb' h10' (by simp; omega)]
    simp
  have htk : (T ++ c13 :: c10 :: rest).take (T.length + 2) = (T ++ [c13]) ++ [c10] := by
    rw [show T ++ c13 :: c10 :: rest = (T ++ [c13, c10]) ++ rest by simp, List.take_left' (by simp)]
    simp
  have hln : lnB (T ++ c13 :: c10 :: rest) (T.length + 2) = T := by
    unfold lnB
    have q1 : tsC ((T ++ [c13]) ++ [c10]) 10 = T ++ [c13] := tsC_same (T ++ [c13]) (c := 10) (by decide)
    rw [htk, q1, decide_eq_true (by simp), cond_true]
    exact tsC_same T (c := 13) (by decide)
  rw [qD_step (by rw [hl]; omega) hs, hi, hln]
  congr 1
  · unfold outQ
    cases hsC (lnC T) 61
    · rw [cond_false, cond_false, List.drop_left, show T.length + 2 - T.length = 2 by omega]
      rfl
    · rfl
  · congr 1
    rw [show T ++ c13 :: c10 :: rest = (T ++ [c13, c10]) ++ rest by simp, List.drop_left' (by simp)]
theorem qD_hard {P : List AV} (rest : List AV) (hb : Byt P) (hl : Ln P) (h1 : Lst P) (h2 : Lst61 P) (hs : (P ++ c13 :: c10 :: rest).length ≤ 48000) :
    qD (P ++ c13 :: c10 :: rest) = pD P ++ c13 :: c10 :: qD rest := by
  rw [qD_line P rest hb (fun x hx => (hl x hx).1) hs, lnC_id hb h1, hs61 hb h2, cond_false, List.append_assoc]
  rfl
theorem qD_soft {P : List AV} (rest : List AV) (hb : Byt P) (hl : Ln P) (hs : (P ++ c61 :: c13 :: c10 :: rest).length ≤ 48000) :
    qD (P ++ c61 :: c13 :: c10 :: rest) = pD P ++ qD rest := by
  have e : P ++ c61 :: c13 :: c10 :: rest = (P ++ [c61]) ++ c13 :: c10 :: rest := by simp
  have hb' : Byt (P ++ [c61]) := hb.app (byt_lit (n := 61) (by decide))
  have hc : lnC (P ++ [c61]) = P ++ [c61] := lnC_id hb' fun Q x hx => by
    obtain ⟨-, h⟩ := List.append_inj' hx rfl
    injection h with h _
    rw [← h]; decide
  have h61 : hsC (P ++ [c61]) 61 = true := (hsC_app P (n := 61) (c := 61) (by decide) (by decide)).trans (decide_eq_true rfl)
  rw [e] at hs ⊢
  rw [qD_line (P ++ [c61]) rest hb' (fun x hx => by
    rcases List.mem_append.1 hx with h | h
    · exact (hl x h).1
    · rw [List.mem_singleton] at h; rw [h]; decide) hs, hc, h61, cond_true]
  simp
theorem qD_nil : qD [] = [] := rfl
theorem pD_nil : pD [] = [] := rfl
theorem qD_last {P : List AV} (hb : Byt P) (hl : Ln P) (h1 : Lst P) (h2 : Lst61 P) (hs : P.length ≤ 48000) : qD P = pD P := by
  by_cases hp : 0 < P.length
  · have h10 : hsC P 10 = false := by
      rcases list_last P with rfl | ⟨Q, x, rfl⟩
      · rfl
      · obtain ⟨n, hn, rfl⟩ := hb x (List.mem_append.2 (.inr (List.mem_cons_self ..)))
        rw [show (10 : Int) = ((10 : Nat) : Int) from rfl, hsC_app Q hn (by decide)]
        exact decide_eq_false fun e => (hl _ (List.mem_append.2 (.inr (List.mem_cons_self ..)))).1 (by rw [e]; rfl)
    have hln : lnB P P.length = P := by
      unfold lnB
      rw [List.take_length, tsC_other h10, decide_eq_false (by omega), cond_false]
    rw [qD_step hp hs, iQ_no hb (fun x hx => (hl x hx).1), hln, List.drop_length]
    unfold outQ
    rw [lnC_id hb h1, hs61 hb h2, cond_false, Nat.sub_self, List.take_zero, List.append_nil, qD_nil, List.append_nil]
  · obtain rfl : P = [] := List.eq_nil_of_length_eq_zero (by omega)
    rfl
def Tok (P p : List AV) : Prop := ∀ Q, pD (P ++ Q) = p ++ pD Q
theorem Tok.nil : Tok [] [] := fun _ => rfl
theorem Tok.app {P p S s : List AV} (h : Tok P p) (h' : Tok S s) : Tok (P ++ S) (p ++ s) := fun Q => by rw [List.append_assoc, h, h', List.append_assoc]
theorem hu_facts : ∀ m : Fin 256, hu ((m : Nat) : Int) ≠ 10 ∧ hu ((m : Nat) : Int) ≠ 13 ∧ hu ((m : Nat) : Int) ≠ 32 ∧ hu ((m : Nat) : Int) ≠ 9 ∧ hu ((m : Nat) : Int) ≠ 61 ∧ 0 ≤ hu ((m : Nat) : Int) ∧ hu ((m : Nat) : Int) < 256 := by decide +kernel
theorem pair_facts : ∀ m : Fin 256, okS [UInt8.ofNat (hu (((m : Nat) : Int) / 16)).toNat, UInt8.ofNat (hu ((m : Nat) : Int)).toNat] = true ∧ prS [UInt8.ofNat (hu (((m : Nat) : Int) / 16)).toNat, UInt8.ofNat (hu ((m : Nat) : Int)).toNat] = ((m : Nat) : Int) := by decide +kernel
theorem slf_ne {n : Nat} {t : List AV} (h : slf (n : Int) t = true) : n ≠ 10 ∧ n ≠ 13 ∧ n ≠ 61 := by
  unfold slf at h
  rcases (Bool.or_eq_true _ _).mp h with h | h
  · obtain ⟨h1, h2⟩ := (Bool.and_eq_true _ _).mp h
    obtain ⟨h2, h3⟩ := (Bool.and_eq_true _ _).mp h2
    have h1 := of_decide_eq_true h1
    have h3 : (n : Int) ≠ 61 := by simpa using h3
    omega
  · obtain ⟨h1, h2⟩ := (Bool.and_eq_true _ _).mp h
    unfold isB' at h1
    rcases (Bool.or_eq_true _ _).mp h1 with h1 | h1
    · have := eq_of_beq h1; omega
    · have := eq_of_beq h1; omega
theorem slf_blank {n : Nat} {t : List AV} (h : slf (n : Int) t = true) (hb : n = 32 ∨ n = 9) : t ≠ [] ∧ crlfB t = false := by
  unfold slf at h
  have h33 : decide ((n : Int) ≥ 33) = false := decide_eq_false (by omega)
  rw [h33, Bool.false_and, Bool.false_or] at h
  obtain ⟨h1, h2⟩ := (Bool.and_eq_true _ _).mp h
  rw [Bool.not_eq_true'] at h2
  obtain ⟨h3, h4⟩ := Bool.or_eq_false_iff.1 h2
  refine ⟨fun e => ?_, h4⟩
  rw [e] at h3
  cases h3
theorem sgn_tok {n : Nat} (hn : n < 256) (t : List AV) : Tok (sgn (n : Int) t) [.int .u8 (n : Int)] := fun Q => by
  unfold sgn
  cases hs : slf (n : Int) t
  · obtain ⟨h1, h2⟩ := pair_facts ⟨n, hn⟩
    rw [cond_false]
    show pD (c61 :: (.int .u8 (hu ((n : Int) / 16)) :: .int .u8 (hu (n : Int)) :: Q)) = _
    rw [pD_cons]
    have e : strAV (List.take 2 (AV.int .u8 (hu ((n : Int) / 16)) :: .int .u8 (hu (n : Int)) :: Q)) = [UInt8.ofNat (hu (((n : Nat) : Int) / 16)).toNat, UInt8.ofNat (hu ((n : Nat) : Int)).toNat] := rfl
    rw [e, h1, h2]
    rfl
  · rw [cond_true]
    show pD (AV.int .u8 (n : Int) :: Q) = _
    rw [pD_cons]
    have : (iE (AV.int .u8 (n : Int)) == 61) = false := by
      rw [Bool.eq_false_iff]
      intro h
      have h : (n : Int) = 61 := eq_of_beq h
      exact (slf_ne hs).2.2 (by omega)
    rw [this]
    rfl
theorem sgn_byt {n : Nat} (hn : n < 256) (t : List AV) : Byt (sgn (n : Int) t) ∧ Ln (sgn (n : Int) t) := by
  have f1 := hu_facts ⟨n, hn⟩
  have f2 := hu_facts ⟨n / 16, by omega⟩
  have e16 : (((n / 16 : Nat) : Nat) : Int) = (n : Int) / 16 := by omega
  simp only [e16] at f1 f2
  unfold sgn
  cases hs : slf (n : Int) t
  · rw [cond_false]
    refine ⟨fun x hx => ?_, fun x hx => ?_⟩
    · simp only [List.mem_cons, List.not_mem_nil, or_false] at hx
      rcases hx with rfl | rfl | rfl
      · exact ⟨61, by decide, rfl⟩
      · exact ⟨(hu ((n : Int) / 16)).toNat, by omega, by rw [Int.toNat_of_nonneg (by omega)]⟩
      · exact ⟨(hu (n : Int)).toNat, by omega, by rw [Int.toNat_of_nonneg (by omega)]⟩
    · simp only [List.mem_cons, List.not_mem_nil, or_false] at hx
      rcases hx with rfl | rfl | rfl
      · exact ⟨by decide, by decide⟩
      · exact ⟨f2.1, f2.2.1⟩
      · exact ⟨f1.1, f1.2.1⟩
  · rw [cond_true]
    obtain ⟨h1, h2, h3⟩ := slf_ne hs
    refine ⟨byt_lit hn, fun x hx => ?_⟩
    rw [List.mem_singleton] at hx
    subst hx
    exact ⟨fun h => h1 (by have h : (n : Int) = 10 := h; omega), fun h => h2 (by have h : (n : Int) = 13 := h; omega)⟩
theorem sgn_last {n : Nat} (hn : n < 256) (t : List AV) : ∃ S y, sgn (n : Int) t = S ++ [y] ∧ iE y ≠ 61 ∧ ((iE y = 32 ∨ iE y = 9) → t ≠ [] ∧ crlfB t = false) := by
  have f1 := hu_facts ⟨n, hn⟩
  unfold sgn
  cases hs : slf (n : Int) t
  · refine ⟨[c61, .int .u8 (hu ((n : Int) / 16))], .int .u8 (hu (n : Int)), rfl, f1.2.2.2.2.1, fun h => ?_⟩
    rcases h with h | h
    · exact absurd h f1.2.2.1
    · exact absurd h f1.2.2.2.1
  · refine ⟨[], .int .u8 (n : Int), rfl, fun h => ?_, fun h => slf_blank hs ?_⟩
    · have h : (n : Int) = 61 := h
      exact (slf_ne hs).2.2 (by omega)
    · rcases h with h | h
      · have h : (n : Int) = 32 := h; omega
      · have h : (n : Int) = 9 := h; omega
theorem crlf_inv {x : AV} {t : List AV} (hb : Byt (x :: t)) (h : crlfB (x :: t) = true) : x = c13 ∧ ∃ t', t = c10 :: t' := by
  unfold crlfB at h
  obtain ⟨h1, h2⟩ := (Bool.and_eq_true _ _).mp h
  obtain ⟨h2, h3⟩ := (Bool.and_eq_true _ _).mp h2
  have h1 := of_decide_eq_true h1
  obtain ⟨n, hn, rfl⟩ := hb x (List.mem_cons_self ..)
  have h13 : (n : Int) = 13 := eq_of_beq h2
  cases t with
  | nil => simp at h1
  | cons y t' =>
    obtain ⟨m, hm, rfl⟩ := hb y (List.mem_cons_of_mem _ (List.mem_cons_self ..))
    have h10 : (m : Int) = 10 := eq_of_beq h3
    exact ⟨by rw [h13], t', by rw [h10]⟩
theorem quoted_back : ∀ (f : Nat) (r : List AV) (c : Int) (P p : List AV), r.length ≤ f → Byt r → Byt P → Ln P → Tok P p → Lst61 P → ((¬ Lst P) → r ≠ [] ∧ crlfB r = false) → (P ++ (q16 r c).1).length ≤ 48000 → qD (P ++ (q16 r c).1) = p ++ r
  | _, [], c, P, p, _, _, hb, hl, hT, h61, hL, hs => by
    have hL' : Lst P := Classical.byContradiction fun h => (hL h).1 rfl
    have e : (q16 [] c).1 = [] := rfl
    rw [e, List.append_nil] at hs ⊢
    rw [qD_last hb hl hL' h61 hs, List.append_nil]
    have := hT []
    rw [List.append_nil, pD_nil, List.append_nil] at this
    exact this
  | 0, _ :: _, _, _, _, hf, _, _, _, _, _, _, _ => absurd hf (Nat.not_succ_le_zero _)
  | f + 1, x :: t, c, P, p, hf, hr, hb, hl, hT, h61, hL, hs => by
    have hP : pD P = p := by
      have := hT []
      rw [List.append_nil, pD_nil, List.append_nil] at this
      exact this
    rw [q16_cons] at hs ⊢
    rw [List.length_cons] at hf
    cases hB : crlfB (x :: t)
    · obtain ⟨n, hn, rfl⟩ := hr x (List.mem_cons_self ..)
      have hi : iE (AV.int .u8 (n : Int)) = n := rfl
      obtain ⟨b1, b2⟩ := sgn_byt hn t
      obtain ⟨S, y, hS, hy1, hy2⟩ := sgn_last hn t
      have T1 := sgn_tok hn t
      have lst : ∀ R : List AV, Lst61 (R ++ sgn (n : Int) t) ∧ ((¬ Lst (R ++ sgn (n : Int) t)) → t ≠ [] ∧ crlfB t = false) := fun R => by
        rw [hS, ← List.append_assoc]
        refine ⟨fun Q z h => ?_, fun h => ?_⟩
        · obtain ⟨-, h⟩ := List.append_inj' h rfl
          injection h with h _
          rw [← h]; exact hy1
        · by_cases hq : iE y = 32 ∨ iE y = 9
          · exact hy2 hq
          · refine absurd (fun Q z h => ?_) h
            obtain ⟨-, h⟩ := List.append_inj' h rfl
            injection h with h _
            rw [← h]
            exact ⟨fun e => hq (.inl e), fun e => hq (.inr e)⟩
      simp only [hB, cond_false] at hs ⊢
      unfold st16 at hs ⊢
      rw [hB] at hs ⊢
      simp only [hi, cond_false] at hs ⊢
      cases hd : decide (c + ((sgn (n : Int) t).length : Nat) > lim16 t)
      · rw [hd] at hs
        simp only [cond_false] at hs ⊢
        rw [← List.append_assoc] at hs ⊢
        rw [quoted_back f t _ (P ++ sgn (n : Int) t) (p ++ [.int .u8 (n : Int)]) (by omega) hr.tail (hb.app b1) (fun z hz => (List.mem_append.1 hz).elim (hl z) (b2 z)) (hT.app T1) (lst P).1 (lst P).2 hs, List.append_assoc]
        rfl
      · rw [hd] at hs
        simp only [cond_true] at hs ⊢
        have hs' : (sgn (n : Int) t ++ (q16 t ((sgn (n : Int) t).length : Nat)).1).length ≤ 48000 := by
          rw [List.length_append, List.length_append, List.length_append] at hs
          rw [List.length_append]; omega
        rw [show ([AV.int .u8 61, .int .u8 13, .int .u8 10] ++ sgn (n : Int) t ++ (q16 t ((sgn (n : Int) t).length : Nat)).1) = c61 :: c13 :: c10 :: (sgn (n : Int) t ++ (q16 t ((sgn (n : Int) t).length : Nat)).1) by simp] at hs ⊢
        rw [qD_soft _ hb hl hs, hP]
        have := lst []
        rw [List.nil_append] at this
        rw [quoted_back f t _ (sgn (n : Int) t) [.int .u8 (n : Int)] (by omega) hr.tail b1 b2 T1 this.1 this.2 hs']
        rfl
    · obtain ⟨rfl, t', rfl⟩ := crlf_inv hr hB
      have hL' : Lst P := Classical.byContradiction fun h => by rw [(hL h).2] at hB; cases hB
      unfold st16 at hs ⊢
      simp only [hB, cond_true, List.drop_succ_cons, List.drop_zero] at hs ⊢
      rw [show ([AV.int .u8 13, .int .u8 10] ++ (q16 t' 0).1) = c13 :: c10 :: (q16 t' 0).1 from rfl] at hs ⊢
      rw [qD_hard _ hb hl hL' h61 hs, hP]
      rw [List.length_cons] at hf
      have hs' : (([] : List AV) ++ (q16 t' 0).1).length ≤ 48000 := by
        rw [List.length_append, List.length_cons, List.length_cons] at hs
        rw [List.nil_append]; omega
      have := quoted_back f t' 0 [] [] (by omega) hr.tail.tail (fun _ h => by cases h) (fun _ h => by cases h) Tok.nil (fun Q z h => by simp at h) (fun h => absurd (fun Q z h => by simp at h) h) hs'
      rw [List.nil_append, List.nil_append] at this
      rw [this]
theorem quoted_again {es : List AV} (hb : es.all bE = true) (hs : (q16 es 0).1.length ≤ 48000) : qD (q16 es 0).1 = es := by
  have := quoted_back es.length es 0 [] [] (Nat.le_refl _) (byt_of hb) (fun _ h => by cases h) (fun _ h => by cases h) Tok.nil (fun Q z h => by simp at h) (fun h => absurd (fun Q z h => by simp at h) h) (by rw [List.nil_append]; exact hs)
  rw [List.nil_append, List.nil_append] at this
  exact this
end Go.Proofs.YtpmlhkoianekfaaGreatDoor


namespace Go.Proofs.YtpmlhkoianekfaaGreatDoor
open Go.Ev
def b64C (v : Nat) : AV := .int .u8 ((b64A.getD v 0).toNat : Int)
def nE (e : AV) : Nat := (iE e).toNat
def g4 : List AV → List AV
  | [] => []
  | [a] => [b64C (nE a * 65536 / 262144 % 64), b64C (nE a * 65536 / 4096 % 64), c61, c61]
  | [a, b] => [b64C ((nE a * 65536 + nE b * 256) / 262144 % 64), b64C ((nE a * 65536 + nE b * 256) / 4096 % 64), b64C ((nE a * 65536 + nE b * 256) / 64 % 64), c61]
  | a :: b :: c :: _ => [b64C ((nE a * 65536 + nE b * 256 + nE c) / 262144 % 64), b64C ((nE a * 65536 + nE b * 256 + nE c) / 4096 % 64), b64C ((nE a * 65536 + nE b * 256 + nE c) / 64 % 64), b64C ((nE a * 65536 + nE b * 256 + nE c) % 64)]
def pre4 (c : Int) : List AV := bif c == 76 then [c13, c10] else []
def col4 (c : Int) : Int := bif c == 76 then 4 else c + 4
def eL : Nat → List AV → List AV × Int → List AV × Int
  | 0, _, o => o
  | f + 1, es, o => bif decide (0 < es.length) then eL f (es.drop 3) (o.1 ++ pre4 o.2 ++ g4 es, col4 o.2) else o
theorem eL_step (f : Nat) (es : List AV) (o : List AV × Int) : eL (f + 1) es o = bif decide (0 < es.length) then eL f (es.drop 3) (o.1 ++ pre4 o.2 ++ g4 es, col4 o.2) else o := rfl
theorem eL_fuel : ∀ (f g : Nat) (es : List AV) (o : List AV × Int), es.length ≤ f → es.length ≤ g → eL f es o = eL g es o
  | 0, 0, _, _, _, _ => rfl
  | 0, g + 1, es, o, hf, _ => by
    obtain rfl : es = [] := List.eq_nil_of_length_eq_zero (by omega)
    rfl
  | f + 1, 0, es, o, _, hg => by
    obtain rfl : es = [] := List.eq_nil_of_length_eq_zero (by omega)
    rfl
  | f + 1, g + 1, es, o, hf, hg => by
    rw [eL_step, eL_step]
    by_cases h : 0 < es.length
    · rw [eL_fuel f g _ _ (by rw [List.length_drop]; omega) (by rw [List.length_drop]; omega)]
    · rw [decide_eq_false h]; rfl
def e17 (es : List AV) : List AV × Int := eL es.length es ([], 0)
def b64E (es : List AV) : List AV := (e17 es).1 ++ bif decide ((e17 es).2 > 0) then [c13, c10] else []
theorem b64C_facts : ∀ v : Fin 64, iE (b64C v) ≠ 61 ∧ b64I (iE (b64C v)) = ((v : Nat) : Int) := by decide +kernel
theorem bD_letter {v : Nat} (hv : v < 64) (t : List AV) (a n : Nat) : (bD (b64C v :: t) a n).1 = (st79 a n v).1 ++ (bD t (st79 a n v).2.1 (st79 a n v).2.2).1 := by
  obtain ⟨h1, h2⟩ := b64C_facts ⟨v, hv⟩
  simp only at h1 h2
  rw [bD_cons, h2, show (iE (b64C v) == 61) = false from by rw [Bool.eq_false_iff]; intro h; exact h1 (eq_of_beq h), cond_false, decide_eq_false (by omega), cond_false, Int.toNat_natCast]
theorem bD_eq (t : List AV) (a n : Nat) : (bD (c61 :: t) a n).1 = [] := rfl
theorem bD_cr (t : List AV) (a n : Nat) : (bD (c13 :: t) a n).1 = (bD t a n).1 := by
  rw [bD_cons, show (iE c13 == 61) = false from rfl, show decide (b64I (iE c13) < 0) = true from by decide +kernel]; rfl
theorem bD_lf (t : List AV) (a n : Nat) : (bD (c10 :: t) a n).1 = (bD t a n).1 := by
  rw [bD_cons, show (iE c10 == 61) = false from rfl, show decide (b64I (iE c10) < 0) = true from by decide +kernel]; rfl
theorem bD_pre (c : Int) (t : List AV) : (bD (pre4 c ++ t) 0 0).1 = (bD t 0 0).1 := by
  unfold pre4
  cases c == 76
  · rfl
  · show (bD (c13 :: c10 :: t) 0 0).1 = _
    rw [bD_cr, bD_lf]
theorem st_0 (v : Nat) : st79 0 0 v = ([], v, 6) := by unfold st79; simp
theorem st_6 (a v : Nat) : st79 a 6 v = ([.int .u8 (((a * 64 + v) / 16 : Nat) : Int)], (a * 64 + v) % 16, 4) := rfl
theorem st_4 (a v : Nat) : st79 a 4 v = ([.int .u8 (((a * 64 + v) / 4 : Nat) : Int)], (a * 64 + v) % 4, 2) := rfl
theorem st_2 (a v : Nat) : st79 a 2 v = ([.int .u8 (((a * 64 + v) / 1 : Nat) : Int)], (a * 64 + v) % 1, 0) := rfl
theorem bD_three {a b c : Nat} (ha : a < 256) (hb : b < 256) (hc : c < 256) (l Q : List AV) : (bD (g4 (.int .u8 (a : Int) :: .int .u8 (b : Int) :: .int .u8 (c : Int) :: l) ++ Q) 0 0).1 = .int .u8 (a : Int) :: .int .u8 (b : Int) :: .int .u8 (c : Int) :: (bD Q 0 0).1 := by
  have na : ∀ m : Nat, nE (.int .u8 (m : Int)) = m := fun m => Int.toNat_natCast m
  unfold g4
  simp only [na]
  generalize hx : a * 65536 + b * 256 + c = x
  show (bD (b64C (x / 262144 % 64) :: b64C (x / 4096 % 64) :: b64C (x / 64 % 64) :: b64C (x % 64) :: Q) 0 0).1 = _
  have h0 : x / 262144 % 64 < 64 := Nat.mod_lt _ (by decide)
  have h1 : x / 4096 % 64 < 64 := Nat.mod_lt _ (by decide)
  have h2 : x / 64 % 64 < 64 := Nat.mod_lt _ (by decide)
  have h3 : x % 64 < 64 := Nat.mod_lt _ (by decide)
  rw [bD_letter h0, st_0, bD_letter h1, st_6, bD_letter h2, st_4, bD_letter h3, st_2, Nat.mod_one]
  have e1 : (x / 262144 % 64 * 64 + x / 4096 % 64) / 16 = a := by omega
  have e2 : ((x / 262144 % 64 * 64 + x / 4096 % 64) % 16 * 64 + x / 64 % 64) / 4 = b := by omega
  have e3 : (((x / 262144 % 64 * 64 + x / 4096 % 64) % 16 * 64 + x / 64 % 64) % 4 * 64 + x % 64) / 1 = c := by omega
  rw [e1, e2, e3]
  rfl
theorem bD_two {a b : Nat} (ha : a < 256) (hb : b < 256) (Q : List AV) : (bD (g4 [.int .u8 (a : Int), .int .u8 (b : Int)] ++ Q) 0 0).1 = [.int .u8 (a : Int), .int .u8 (b : Int)] := by
  have na : ∀ m : Nat, nE (.int .u8 (m : Int)) = m := fun m => Int.toNat_natCast m
  unfold g4
  simp only [na]
  generalize hx : a * 65536 + b * 256 = x
  show (bD (b64C (x / 262144 % 64) :: b64C (x / 4096 % 64) :: b64C (x / 64 % 64) :: c61 :: Q) 0 0).1 = _
  have h0 : x / 262144 % 64 < 64 := Nat.mod_lt _ (by decide)
  have h1 : x / 4096 % 64 < 64 := Nat.mod_lt _ (by decide)
  have h2 : x / 64 % 64 < 64 := Nat.mod_lt _ (by decide)
  rw [bD_letter h0, st_0, bD_letter h1, st_6, bD_letter h2, st_4, bD_eq]
  have e1 : (x / 262144 % 64 * 64 + x / 4096 % 64) / 16 = a := by omega
  have e2 : ((x / 262144 % 64 * 64 + x / 4096 % 64) % 16 * 64 + x / 64 % 64) / 4 = b := by omega
  rw [e1, e2]
  rfl
theorem bD_one {a : Nat} (ha : a < 256) (Q : List AV) : (bD (g4 [.int .u8 (a : Int)] ++ Q) 0 0).1 = [.int .u8 (a : Int)] := by
  have na : ∀ m : Nat, nE (.int .u8 (m : Int)) = m := fun m => Int.toNat_natCast m
  unfold g4
  simp only [na]
  generalize hx : a * 65536 = x
  show (bD (b64C (x / 262144 % 64) :: b64C (x / 4096 % 64) :: c61 :: c61 :: Q) 0 0).1 = _
  have h0 : x / 262144 % 64 < 64 := Nat.mod_lt _ (by decide)
  have h1 : x / 4096 % 64 < 64 := Nat.mod_lt _ (by decide)
  rw [bD_letter h0, st_0, bD_letter h1, st_6, bD_eq]
  have e1 : (x / 262144 % 64 * 64 + x / 4096 % 64) / 16 = a := by omega
  rw [e1]
  rfl
theorem eL_app : ∀ (f : Nat) (es o : List AV) (c : Int), (eL f es (o, c)).1 = o ++ (eL f es ([], c)).1 ∧ (eL f es (o, c)).2 = (eL f es ([], c)).2
  | 0, _, o, c => ⟨(List.append_nil o).symm, rfl⟩
  | f + 1, es, o, c => by
    rw [eL_step, eL_step]
    cases decide (0 < es.length)
    · exact ⟨(List.append_nil o).symm, rfl⟩
    · simp only [cond_true]
      obtain ⟨h1, h2⟩ := eL_app f (es.drop 3) (o ++ pre4 c ++ g4 es) (col4 c)
      obtain ⟨h3, h4⟩ := eL_app f (es.drop 3) ([] ++ pre4 c ++ g4 es) (col4 c)
      rw [h1, h2, h3, h4]
      exact ⟨by simp, rfl⟩
theorem base64_back : ∀ (f : Nat) (es : List AV) (c : Int) (T : List AV), es.length ≤ f → Byt es → (bD T 0 0).1 = [] → (bD ((eL f es ([], c)).1 ++ T) 0 0).1 = es
  | 0, es, c, T, hf, _, hT => by
    obtain rfl : es = [] := List.eq_nil_of_length_eq_zero (by omega)
    exact hT
  | f + 1, es, c, T, hf, hb, hT => by
    rw [eL_step]
    match es, hf, hb with
    | [], _, _ => exact hT
    | [x], _, hb =>
      obtain ⟨a, ha, rfl⟩ := hb x (by simp)
      rw [decide_eq_true (by simp), cond_true, (eL_app f _ _ _).1, List.append_assoc, List.nil_append, List.append_assoc, bD_pre, bD_one ha]
    | [x, y], _, hb =>
      obtain ⟨a, ha, rfl⟩ := hb x (by simp)
      obtain ⟨b, hb', rfl⟩ := hb y (by simp)
      rw [decide_eq_true (by simp), cond_true, (eL_app f _ _ _).1, List.append_assoc, List.nil_append, List.append_assoc, bD_pre, bD_two ha hb']
    | x :: y :: z :: l, hf, hb =>
      obtain ⟨a, ha, rfl⟩ := hb x (by simp)
      obtain ⟨b, hb', rfl⟩ := hb y (by simp)
      obtain ⟨d, hd, rfl⟩ := hb z (by simp)
      rw [decide_eq_true (by simp), cond_true, (eL_app f _ _ _).1, List.append_assoc, List.nil_append, List.append_assoc, bD_pre, bD_three ha hb' hd]
      show _ :: _ :: _ :: (bD ((eL f l ([], col4 c)).1 ++ T) 0 0).1 = _
      rw [base64_back f l (col4 c) T (by simp only [List.length_cons] at hf; omega) hb.tail.tail.tail hT]
theorem base64_again {es : List AV} (hb : es.all bE = true) : (bD (b64E es) 0 0).1 = es := by
  unfold b64E e17
  refine base64_back es.length es 0 _ (Nat.le_refl _) (byt_of hb) ?_
  cases decide ((eL es.length es ([], 0)).2 > 0)
  · rfl
  · show (bD (c13 :: c10 :: []) 0 0).1 = []
    rw [bD_cr, bD_lf]; rfl
theorem g4_len : ∀ es : List AV, (g4 es).length ≤ 4
  | [] => by decide
  | [_] => Nat.le_refl _
  | [_, _] => Nat.le_refl _
  | _ :: _ :: _ :: _ => Nat.le_refl _
end Go.Proofs.YtpmlhkoianekfaaGreatDoor

namespace Go.Proofs.YtpmlhkoianekfaaGreatDoor
open Go.Ev
def dPts (s : List UInt8) : Nat → Nat → List Nat
  | 0, _ => []
  | n + 1, i => bif brk s i then i :: dPts s n (i + 1) else dPts s n (i + 1)
def dBest (a : Nat) : List Nat → Int → Int
  | [], b => b
  | p :: ps, b => bif decide (a < p) && (decide (p ≤ a + 78) || decide (b < 0)) then dBest a ps p else dBest a ps b
theorem dPts_step (s : List UInt8) (n i : Nat) : dPts s (n + 1) i = bif brk s i then i :: dPts s n (i + 1) else dPts s n (i + 1) := rfl
theorem dPts_app (s : List UInt8) (m : Nat) : ∀ (n i : Nat), dPts s (n + m) i = dPts s n i ++ dPts s m (i + n)
  | 0, i => by rw [Nat.zero_add, Nat.add_zero]; rfl
  | n + 1, i => by
    rw [show n + 1 + m = (n + m) + 1 by omega, dPts_step, dPts_step, dPts_app s m n (i + 1), show i + (n + 1) = i + 1 + n by omega]
    cases brk s i <;> rfl
theorem dPts_mem (s : List UInt8) : ∀ (n i p : Nat), p ∈ dPts s n i → i ≤ p ∧ p < i + n
  | 0, i, p, h => by cases h
  | n + 1, i, p, h => by
    rw [dPts_step] at h
    cases hb : brk s i
    · rw [hb] at h
      have := dPts_mem s n (i + 1) p h
      omega
    · rw [hb] at h
      rcases List.mem_cons.1 h with rfl | h
      · omega
      · have := dPts_mem s n (i + 1) p h
        omega
theorem dBest_low (a : Nat) (qs : List Nat) (b : Int) : ∀ ps : List Nat, (∀ p ∈ ps, p ≤ a) → dBest a (ps ++ qs) b = dBest a qs b
  | [], _ => rfl
  | p :: ps, h => by
    have hp := h p (List.mem_cons_self ..)
    show (bif decide (a < p) && _ then _ else dBest a (ps ++ qs) b) = _
    rw [decide_eq_false (by omega), Bool.false_and, cond_false]
    exact dBest_low a qs b ps fun q hq => h q (List.mem_cons_of_mem _ hq)
theorem dBest_far (a : Nat) {b : Int} (hb : 0 ≤ b) : ∀ ps : List Nat, (∀ p ∈ ps, a + 78 < p) → dBest a ps b = b
  | [], _ => rfl
  | p :: ps, h => by
    have hp := h p (List.mem_cons_self ..)
    show (bif decide (a < p) && (decide (p ≤ a + 78) || decide (b < 0)) then _ else dBest a ps b) = _
    rw [decide_eq_false (show ¬ p ≤ a + 78 by omega), decide_eq_false (show ¬ b < 0 by omega), Bool.or_false, Bool.and_false, cond_false]
    exact dBest_far a hb ps fun q hq => h q (List.mem_cons_of_mem _ hq)
theorem atI_drop (s : List UInt8) (a i : Nat) : atI (s.drop a) i = atI s (a + i) := by
  unfold atI
  rw [List.getD_eq_getElem?_getD, List.getD_eq_getElem?_getD, List.getElem?_drop]
theorem brk_drop (s : List UInt8) (a i : Nat) (h : 1 ≤ i) : brk (s.drop a) i = brk s (a + i) := by
  unfold brk
  rw [atI_drop, atI_drop, show a + (i - 1) = a + i - 1 by omega]
theorem dBest_mem (a : Nat) : ∀ (ps : List Nat) (b : Int), dBest a ps b = b ∨ ∃ p ∈ ps, a < p ∧ dBest a ps b = (p : Int)
  | [], _ => .inl rfl
  | p :: ps, b => by
    show (bif decide (a < p) && (decide (p ≤ a + 78) || decide (b < 0)) then dBest a ps p else dBest a ps b) = b ∨ ∃ q ∈ p :: ps, a < q ∧ (bif decide (a < p) && (decide (p ≤ a + 78) || decide (b < 0)) then dBest a ps p else dBest a ps b) = (q : Int)
    cases hc : decide (a < p) && (decide (p ≤ a + 78) || decide (b < 0))
    · rcases dBest_mem a ps b with h | ⟨q, h1, h2⟩
      · exact .inl h
      · exact .inr ⟨q, List.mem_cons_of_mem _ h1, h2⟩
    · rcases dBest_mem a ps p with h | ⟨q, h1, h2⟩
      · exact .inr ⟨p, List.mem_cons_self .., of_decide_eq_true ((Bool.and_eq_true _ _).mp hc).1, h⟩
      · exact .inr ⟨q, List.mem_cons_of_mem _ h1, h2⟩
def toB (a : Nat) (b : Int) : Int := if b = 0 then -1 else b + a
theorem ptL_best (s : List UInt8) (a : Nat) : ∀ (n : Nat) (b : Int) (i : Nat), 0 ≤ b → 1 ≤ i → toB a (ptL (s.drop a) n b i).1 = dBest a (dPts s n (a + i)) (toB a b)
  | 0, b, i, _, _ => rfl
  | n + 1, b, i, hb, hi => by
    rw [ptL_step, dPts_step, brk_drop s a i hi]
    have ih := fun b' h => ptL_best s a n b' (i + 1) h (by omega)
    cases hk : brk s (a + i)
    · exact ih b hb
    · simp only [cond_true]
      have step : dBest a ((a + i) :: dPts s n (a + i + 1)) (toB a b) = bif decide (a < a + i) && (decide (a + i ≤ a + 78) || decide (toB a b < 0)) then dBest a (dPts s n (a + i + 1)) ((a + i : Nat) : Int) else dBest a (dPts s n (a + i + 1)) (toB a b) := rfl
      rw [step, decide_eq_true (show a < a + i by omega), Bool.true_and]
      have e : toB a (i : Int) = ((a + i : Nat) : Int) := by unfold toB; rw [if_neg (by omega)]; omega
      by_cases h0 : b = 0
      · subst h0
        rw [show decide ((0 : Int) > 0) = false from rfl, Bool.false_and, cond_false, show decide (toB a 0 < 0) = true from by unfold toB; simp, Bool.or_true, cond_true, ih i (by omega), e]
        rfl
      · have hB : toB a b = b + a := by unfold toB; rw [if_neg h0]
        rw [decide_eq_true (show b > 0 by omega), Bool.true_and, hB, decide_eq_false (show ¬ b + (a : Int) < 0 by omega), Bool.or_false]
        by_cases h78 : i ≤ 78
        · rw [decide_eq_false (show ¬ (i : Int) > 78 by omega), decide_eq_true (show a + i ≤ a + 78 by omega), cond_false, cond_true, ih i (by omega), e]
          rfl
        · rw [decide_eq_true (show (i : Int) > 78 by omega), decide_eq_false (show ¬ a + i ≤ a + 78 by omega), cond_true, cond_false]
          show toB a b = _
          rw [hB, dBest_far a (by omega) _ fun p hp => by have := dPts_mem s n _ p hp; omega]
def dFl : Nat → List UInt8 → List Nat → Nat → List (List UInt8) × Nat
  | 0, _, _, a => ([], a)
  | f + 1, s, ps, a => bif decide ((s.length : Int) - a > 78) then (bif decide (dBest a ps (-1) < 0) then ([], a) else ((s.drop a).take ((dBest a ps (-1)).toNat - a) :: (dFl f s ps (dBest a ps (-1)).toNat).1, (dFl f s ps (dBest a ps (-1)).toNat).2)) else ([], a)
theorem dFl_step (f : Nat) (s : List UInt8) (ps : List Nat) (a : Nat) : dFl (f + 1) s ps a = bif decide ((s.length : Int) - a > 78) then (bif decide (dBest a ps (-1) < 0) then ([], a) else ((s.drop a).take ((dBest a ps (-1)).toNat - a) :: (dFl f s ps (dBest a ps (-1)).toNat).1, (dFl f s ps (dBest a ps (-1)).toNat).2)) else ([], a) := rfl
theorem dBest_from (s : List UInt8) (i a : Nat) (hi : i ≤ a + 1) (hl : a + 1 ≤ s.length) : dBest a (dPts s (s.length - i) i) (-1) = dBest a (dPts s (s.length - (a + 1)) (a + 1)) (-1) := by
  rw [show s.length - i = (a + 1 - i) + (s.length - (a + 1)) by omega, dPts_app, show i + (a + 1 - i) = a + 1 by omega]
  exact dBest_low a _ _ _ fun p hp => by have := dPts_mem s _ _ p hp; omega
theorem pt_best (s : List UInt8) (i a : Nat) (f : Int) (h : (a = 0 ∧ f = i ∧ 1 ≤ i ∧ i ≤ s.length) ∨ (i ≤ a ∧ f = 0 ∧ a + 1 ≤ s.length)) : toB a (pt (s.drop a) f) = dBest a (dPts s (s.length - i) i) (-1) := by
  unfold pt
  rcases h with ⟨rfl, rfl, h1, h2⟩ | ⟨h1, rfl, h2⟩
  · have hm : (mx1 (i : Int)).toNat = i := by unfold mx1; split <;> omega
    rw [hm, ptL_best s 0 _ 0 i (Int.le_refl _) h1, List.drop_zero, Nat.zero_add]
    rfl
  · rw [show (mx1 0).toNat = 1 from rfl, ptL_best s a _ 0 1 (Int.le_refl _) (Nat.le_refl _), List.length_drop, dBest_from s i a (by omega) h2, show s.length - a - 1 = s.length - (a + 1) by omega]
    rfl
theorem fl_doc (s : List UInt8) (i : Nat) (hi : 1 ≤ i) (hil : i ≤ s.length) : ∀ (n a : Nat) (f : Int), (a = 0 ∧ f = i) ∨ (i ≤ a ∧ f = 0) → a ≤ s.length →
    (fl n (s.drop a) f).1 = (dFl n s (dPts s (s.length - i) i) a).1 ∧ (fl n (s.drop a) f).2.1 = s.drop (dFl n s (dPts s (s.length - i) i) a).2
  | 0, a, f, _, _ => ⟨rfl, rfl⟩
  | n + 1, a, f, h, ha => by
    rw [fl_step, dFl_step, List.length_drop]
    by_cases h78 : (s.length : Int) - a > 78
    · have h78' : ((s.length - a : Nat) : Int) > 78 := by omega
      rw [decide_eq_true h78, decide_eq_true h78', cond_true, cond_true]
      have hp := pt_best s i a f (h.imp (fun h => ⟨h.1, h.2, hi, hil⟩) (fun h => ⟨h.1, h.2, by omega⟩))
      obtain ⟨p0, p1⟩ := pt_r (s.drop a) f
      rw [List.length_drop] at p1
      rw [← hp]
      by_cases hz : pt (s.drop a) f = 0
      · rw [hz]
        exact ⟨rfl, rfl⟩
      · have hne : (pt (s.drop a) f == 0) = false := by rw [Bool.eq_false_iff]; intro e; exact hz (eq_of_beq e)
        have e : toB a (pt (s.drop a) f) = pt (s.drop a) f + a := by unfold toB; rw [if_neg hz]
        rw [hne, cond_false, e, decide_eq_false (by omega), cond_false]
        obtain ⟨q, hq⟩ : ∃ q : Nat, pt (s.drop a) f = q := ⟨(pt (s.drop a) f).toNat, by omega⟩
        have hia : i ≤ a + q := by
          rcases h with ⟨rfl, rfl⟩ | h
          · rcases dBest_mem 0 (dPts s (s.length - i) i) (-1) with h1 | ⟨p, h1, _, h2⟩
            · rw [← hp, e] at h1; omega
            · rw [← hp, e] at h2
              have := dPts_mem s _ _ p h1
              omega
          · omega
        rw [hq, Int.toNat_natCast, show ((q : Int) + a).toNat = a + q by omega, List.drop_drop, show a + q - a = q by omega]
        obtain ⟨i1, i2⟩ := fl_doc s i hi hil n (a + q) 0 (.inr ⟨hia, rfl⟩) (by omega)
        exact ⟨by rw [i1], i2⟩
    · have h78' : ¬ ((s.length - a : Nat) : Int) > 78 := by omega
      rw [decide_eq_false h78, decide_eq_false h78']
      exact ⟨rfl, rfl⟩
end Go.Proofs.YtpmlhkoianekfaaGreatDoor
