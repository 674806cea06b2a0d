/-
  Greylists: slices.Clone, slices.DeleteFunc, slices.Insert.
-/
import Derived.Test.YtbkokbmodpkamaaGyB
import Derived.Test.YtbkokbmodpkamaaDel
import Derived.Test.YtbkokbmodpkamaaGiven
namespace Go.Proofs.Ytbkokbmodpkamaa
open Go.Ev

def eE (e : AV) : AV := .agg [.str (hOf e), .str (fOf e), .str (tOf e), .int .i64 (aOf e), .int .i64 (lOf e), .bool (knOf e)]
theorem byE : Try.prog.bytesOf 33 ≤ 1000 := of_decide_eq_true (by kernel_rfl)
theorem can_of {e : AV} (h : hasSh sE e = true) : eE e = e := by
  obtain ⟨cs, rfl, h1⟩ := has_agg h
  obtain ⟨c1, cs, rfl, a1, h1⟩ := hass_cons h1
  obtain ⟨c2, cs, rfl, a2, h1⟩ := hass_cons h1
  obtain ⟨c3, cs, rfl, a3, h1⟩ := hass_cons h1
  obtain ⟨c4, cs, rfl, a4, h1⟩ := hass_cons h1
  obtain ⟨c5, cs, rfl, a5, h1⟩ := hass_cons h1
  obtain ⟨c6, cs, rfl, a6, h1⟩ := hass_cons h1
  obtain rfl := hass_nil h1
  obtain ⟨x1, rfl⟩ := has_str a1
  obtain ⟨x2, rfl⟩ := has_str a2
  obtain ⟨x3, rfl⟩ := has_str a3
  obtain ⟨x4, rfl⟩ := has_int a4
  obtain ⟨x5, rfl⟩ := has_int a5
  obtain ⟨x6, rfl⟩ := has_bool a6
  rfl

/-! IndexFunc -/
def oldE (now : Int) (e : AV) : Bool := oldP (aOf e) (lOf e) (knOf e) now
noncomputable def G25 : Env := { pure := [(25, evF Try.prog { pure := [(22, ofT F22)] } [] Try.f25)] }
theorem g25 : GOK Try.prog G25 := GOK.also g0 (inl (GOK.also g0 ok22) Try.func25 (by kernel_rfl))
noncomputable def b34 : Code := ((Try.f34.body.map loopsOf).getD []).headD .skip
def oldN (now : Int) (es : List AV) (i : Nat) : Bool := oldE now (es.getD i .unk)
def L34 : List AV → List (Option Row) → Tr LOut
  | [.slv (.agg [.str, .str, .str, .int .i64, .int .i64, .bool]) es, .fn 25 [.ref [.int .i64 x]], .int .i64 z, .int .i64 n, .int .i64 i], [] =>
    .gd (cnt n i es.length) (sT (oldN x es) es.length (fun q => .leaf (.ret, [.slv sE es, .fn 25 [.ref [.int .i64 x]], .int .i64 (q : Nat), .int .i64 n, .int .i64 (q : Nat)], [])) (.leaf (.exit 0, [.slv sE es, .fn 25 [.ref [.int .i64 x]], .int .i64 z, .int .i64 n, .int .i64 es.length], [])) i.toNat)
  | _, _ => .no
def l34 : Ev.Loop := ⟨{ len := 19, slots := [0, 1, 4, 7, 8] }, ofL L34⟩
def μ34 (vs : List AV) (_ : List (Option Row)) : Nat := match vs with
  | [_, _, _, .int _ n, .int _ i] => (n - i).toNat
  | _ => 0
theorem loop34 : LoopOK Try.prog G25 [(2, l34)] b34 l34 := by
  refine loopT g25.natOK rfl (KOK.nil (by kernel_rfl)) μ34 (fun ρ vs rs k r h => ?_)
  unfold L34 at h
  split at h
  · rename_i es x z n i
    obtain ⟨hc, hk⟩ := gd_some h
    obtain ⟨rfl, hs, j, rfl, hj⟩ := cnt_spec hc
    rw [Int.toNat_natCast] at hk
    refine Eq.trans (b := bif decide ((↑j : Int) < (↑es.length : Int)) then bif inb (↑j : Int) es.length then bif oldP (aOf (es.getD j AV.unk)) (lOf (es.getD j AV.unk)) (knOf (es.getD j AV.unk)) x then k Ex.ret [AV.slv (Sh.agg [Sh.str, Sh.str, Sh.str, Sh.int IntKind.i64, Sh.int IntKind.i64, Sh.bool]) es, AV.fn (25 : Nat) [AV.ref [AV.int IntKind.i64 x]], AV.int IntKind.i64 (↑j : Int), AV.int IntKind.i64 (↑es.length : Int), AV.int IntKind.i64 (↑j : Int)] [] else bif decide (((↑es.length : Int) - IntKind.i64.wrap ((↑j : Int) + (1 : Int))).toNat < ((↑es.length : Int) - (↑j : Int)).toNat) then bif cnt (↑es.length : Int) (IntKind.i64.wrap ((↑j : Int) + (1 : Int))) es.length then bif (findN (oldN x es) es.length (IntKind.i64.wrap ((↑j : Int) + (1 : Int))).toNat).isSome then k Ex.ret [AV.slv (Sh.agg [Sh.str, Sh.str, Sh.str, Sh.int IntKind.i64, Sh.int IntKind.i64, Sh.bool]) es, AV.fn (25 : Nat) [AV.ref [AV.int IntKind.i64 x]], AV.int IntKind.i64 (↑((findN (oldN x es) es.length (IntKind.i64.wrap ((↑j : Int) + (1 : Int))).toNat).getD (0 : Nat)) : Int), AV.int IntKind.i64 (↑es.length : Int), AV.int IntKind.i64 (↑((findN (oldN x es) es.length (IntKind.i64.wrap ((↑j : Int) + (1 : Int))).toNat).getD (0 : Nat)) : Int)] [] else k (Ex.exit (0 : Nat)) [AV.slv (Sh.agg [Sh.str, Sh.str, Sh.str, Sh.int IntKind.i64, Sh.int IntKind.i64, Sh.bool]) es, AV.fn (25 : Nat) [AV.ref [AV.int IntKind.i64 x]], AV.int IntKind.i64 z, AV.int IntKind.i64 (↑es.length : Int), AV.int IntKind.i64 (↑es.length : Int)] [] else none else none else none else k (Ex.exit (0 : Nat)) [AV.slv (Sh.agg [Sh.str, Sh.str, Sh.str, Sh.int IntKind.i64, Sh.int IntKind.i64, Sh.bool]) es, AV.fn (25 : Nat) [AV.ref [AV.int IntKind.i64 x]], AV.int IntKind.i64 z, AV.int IntKind.i64 (↑es.length : Int), AV.int IntKind.i64 (↑j : Int)] []) (by kernel_rfl) ?_
    rw [← hk]
    by_cases hlt : j < es.length
    · obtain ⟨e1, e2, e3, e4, e5⟩ := cnt_facts hlt hs
      rw [sT_step _ _ _ _ _ hlt]
      simp only [e1, e2, e3, e4, e5, cond_true, Int.toNat_natCast]
      rfl
    · obtain rfl : j = es.length := by omega
      rw [decide_eq_false (by omega), sT_end]
      rfl
  · cases h
def F34 : List AV → Tr AV
  | [.slv (.agg [.str, .str, .str, .int .i64, .int .i64, .bool]) es, .fn 25 [.ref [.int .i64 x]]] => .gd (small es.length) (.leaf (.int .i64 (idxZ (findN (oldN x es) es.length 0))))
  | _ => .no
theorem idxZ_br {α : Type} (o : Option Nat) (k : AV → α) : (bif o.isSome then k (.int .i64 ((o.getD 0 : Nat) : Int)) else k (.int .i64 (-1))) = k (.int .i64 (idxZ o)) := by cases o <;> rfl
theorem ok34 : SumOK Try.prog 34 (ofT F34) ∧ SNat (ofT F34) := by
  refine fn1 (K := [(2, l34)]) (b := b34) (l := l34) g25 Try.func34 (by kernel_rfl) (by kernel_rfl) loop34 fun ρ avs k r h => ?_
  unfold F34 at h
  split at h
  · rename_i es x
    obtain ⟨hc, hk⟩ := gd_some h
    refine Eq.trans (b := bif cnt (↑es.length : Int) (0 : Int) es.length then bif (findN (oldN x es) es.length (0 : Nat)).isSome then k (AV.int IntKind.i64 (↑((findN (oldN x es) es.length (0 : Nat)).getD (0 : Nat)) : Int)) else k (AV.int IntKind.i64 (-1 : Int)) else none) (by kernel_rfl) ?_
    rw [← hk, cnt_zero hc]
    exact idxZ_br _ k
  · cases h
/-! DeleteFunc -/
noncomputable def G24 : Env := { pure := (34, ofT F34) :: G25.pure }
theorem g24 : GOK Try.prog G24 := GOK.also g25 ok34
noncomputable def b24 : Code := ((Try.f24.body.map loopsOf).getD []).headD .skip
def L24 : List AV → List (Option Row) → Tr LOut
  | [.own p, .fn 25 [.ptr q 0], .int .i64 i, .int .i64 j], [some (.arr false (.agg [.str, .str, .str, .int .i64, .int .i64, .bool]) e es sp), some (.box false [.int .i64 now])] =>
    .gd (Nat.beq p PID && (Nat.beq q (PID + 1) && decide (0 ≤ i ∧ i < j ∧ j ≤ es.length ∧ es.length ≤ 1000000)))
      (.leaf (.exit 0, [.own PID, .fn 25 [.ptr (PID + 1) 0], .int .i64 (delN (oldE now) eE (es.length - j.toNat) es i.toNat j.toNat).2, .int .i64 es.length], [some (.arr false sE e (delN (oldE now) eE (es.length - j.toNat) es i.toNat j.toNat).1 sp), some (.box false [.int .i64 now])]))
  | _, _ => .no
def l24 : Ev.Loop := ⟨{ len := 42, slots := [0, 1, 5, 6], rows := [PID, PID + 1] }, ofL L24⟩
def μ24 (vs : List AV) (rs : List (Option Row)) : Nat := match vs, rs with
  | [_, _, _, .int _ j], [some (.arr _ _ _ es _), _] => ((es.length : Int) - j).toNat
  | _, _ => 0
theorem loop24 : LoopOK Try.prog G24 [(5, l24)] b24 l24 := by
  refine loopT g24.natOK rfl (KOK.nil (by kernel_rfl)) μ24 (fun ρ vs rs k r h => ?_)
  unfold L24 at h
  split at h
  · rename_i p q i' j' e es sp now
    obtain ⟨hc, hk⟩ := gd_some h
    simp only [Bool.and_eq_true] at hc
    obtain ⟨c1, c2, c3⟩ := hc
    obtain ⟨c3, c4, c5, c6⟩ := of_decide_eq_true c3
    obtain rfl := Nat.eq_of_beq_eq_true c1
    obtain rfl := Nat.eq_of_beq_eq_true c2
    obtain ⟨i, rfl⟩ : ∃ i : Nat, i' = i := ⟨i'.toNat, by omega⟩
    obtain ⟨j, rfl⟩ : ∃ j : Nat, j' = j := ⟨j'.toNat, by omega⟩
    simp only [Int.toNat_natCast] at hk
    refine Eq.trans (b := bif decide ((↑j : Int) < (↑es.length : Int)) then bif inb (↑j : Int) es.length then bif decide (j < es.length) then bif !oldP (aOf (es.getD j AV.unk)) (lOf (es.getD j AV.unk)) (knOf (es.getD j AV.unk)) now then bif inb (↑i : Int) es.length then bif decide (i < es.length) then bif decide (((↑(es.set i (mkAV (Sh.agg [Sh.str, Sh.str, Sh.str, Sh.int IntKind.i64, Sh.int IntKind.i64, Sh.bool]) [AV.str (hOf (es.getD j AV.unk)), AV.str (fOf (es.getD j AV.unk)), AV.str (tOf (es.getD j AV.unk)), AV.int IntKind.i64 (aOf (es.getD j AV.unk)), AV.int IntKind.i64 (lOf (es.getD j AV.unk)), AV.bool (knOf (es.getD j AV.unk))])).length : Int) - IntKind.i64.wrap ((↑j : Int) + (1 : Int))).toNat < ((↑es.length : Int) - (↑j : Int)).toNat) then bif PID.beq PID && ((PID + (1 : Nat)).beq (PID + (1 : Nat)) && decide ((0 : Int) ≤ IntKind.i64.wrap ((↑i : Int) + (1 : Int)) ∧ IntKind.i64.wrap ((↑i : Int) + (1 : Int)) < IntKind.i64.wrap ((↑j : Int) + (1 : Int)) ∧ IntKind.i64.wrap ((↑j : Int) + (1 : Int)) ≤ (↑(es.set i (mkAV (Sh.agg [Sh.str, Sh.str, Sh.str, Sh.int IntKind.i64, Sh.int IntKind.i64, Sh.bool]) [AV.str (hOf (es.getD j AV.unk)), AV.str (fOf (es.getD j AV.unk)), AV.str (tOf (es.getD j AV.unk)), AV.int IntKind.i64 (aOf (es.getD j AV.unk)), AV.int IntKind.i64 (lOf (es.getD j AV.unk)), AV.bool (knOf (es.getD j AV.unk))])).length : Int) ∧ (es.set i (mkAV (Sh.agg [Sh.str, Sh.str, Sh.str, Sh.int IntKind.i64, Sh.int IntKind.i64, Sh.bool]) [AV.str (hOf (es.getD j AV.unk)), AV.str (fOf (es.getD j AV.unk)), AV.str (tOf (es.getD j AV.unk)), AV.int IntKind.i64 (aOf (es.getD j AV.unk)), AV.int IntKind.i64 (lOf (es.getD j AV.unk)), AV.bool (knOf (es.getD j AV.unk))])).length ≤ (1000000 : Nat))) then k (Ex.exit (0 : Nat)) [AV.own (1125899906842624 : Nat), AV.fn (25 : Nat) [AV.ptr (1125899906842625 : Nat) (0 : Nat)], AV.int IntKind.i64 (↑(delN (oldE now) eE ((es.set i (mkAV (Sh.agg [Sh.str, Sh.str, Sh.str, Sh.int IntKind.i64, Sh.int IntKind.i64, Sh.bool]) [AV.str (hOf (es.getD j AV.unk)), AV.str (fOf (es.getD j AV.unk)), AV.str (tOf (es.getD j AV.unk)), AV.int IntKind.i64 (aOf (es.getD j AV.unk)), AV.int IntKind.i64 (lOf (es.getD j AV.unk)), AV.bool (knOf (es.getD j AV.unk))])).length - (IntKind.i64.wrap ((↑j : Int) + (1 : Int))).toNat) (es.set i (mkAV (Sh.agg [Sh.str, Sh.str, Sh.str, Sh.int IntKind.i64, Sh.int IntKind.i64, Sh.bool]) [AV.str (hOf (es.getD j AV.unk)), AV.str (fOf (es.getD j AV.unk)), AV.str (tOf (es.getD j AV.unk)), AV.int IntKind.i64 (aOf (es.getD j AV.unk)), AV.int IntKind.i64 (lOf (es.getD j AV.unk)), AV.bool (knOf (es.getD j AV.unk))])) (IntKind.i64.wrap ((↑i : Int) + (1 : Int))).toNat (IntKind.i64.wrap ((↑j : Int) + (1 : Int))).toNat).snd : Int), AV.int IntKind.i64 (↑(es.set i (mkAV (Sh.agg [Sh.str, Sh.str, Sh.str, Sh.int IntKind.i64, Sh.int IntKind.i64, Sh.bool]) [AV.str (hOf (es.getD j AV.unk)), AV.str (fOf (es.getD j AV.unk)), AV.str (tOf (es.getD j AV.unk)), AV.int IntKind.i64 (aOf (es.getD j AV.unk)), AV.int IntKind.i64 (lOf (es.getD j AV.unk)), AV.bool (knOf (es.getD j AV.unk))])).length : Int)] [some (Row.arr false (Sh.agg [Sh.str, Sh.str, Sh.str, Sh.int IntKind.i64, Sh.int IntKind.i64, Sh.bool]) e (delN (oldE now) eE ((es.set i (mkAV (Sh.agg [Sh.str, Sh.str, Sh.str, Sh.int IntKind.i64, Sh.int IntKind.i64, Sh.bool]) [AV.str (hOf (es.getD j AV.unk)), AV.str (fOf (es.getD j AV.unk)), AV.str (tOf (es.getD j AV.unk)), AV.int IntKind.i64 (aOf (es.getD j AV.unk)), AV.int IntKind.i64 (lOf (es.getD j AV.unk)), AV.bool (knOf (es.getD j AV.unk))])).length - (IntKind.i64.wrap ((↑j : Int) + (1 : Int))).toNat) (es.set i (mkAV (Sh.agg [Sh.str, Sh.str, Sh.str, Sh.int IntKind.i64, Sh.int IntKind.i64, Sh.bool]) [AV.str (hOf (es.getD j AV.unk)), AV.str (fOf (es.getD j AV.unk)), AV.str (tOf (es.getD j AV.unk)), AV.int IntKind.i64 (aOf (es.getD j AV.unk)), AV.int IntKind.i64 (lOf (es.getD j AV.unk)), AV.bool (knOf (es.getD j AV.unk))])) (IntKind.i64.wrap ((↑i : Int) + (1 : Int))).toNat (IntKind.i64.wrap ((↑j : Int) + (1 : Int))).toNat).fst sp), some (Row.box false [AV.int IntKind.i64 now])] else none else none else none else none else bif decide (((↑es.length : Int) - IntKind.i64.wrap ((↑j : Int) + (1 : Int))).toNat < ((↑es.length : Int) - (↑j : Int)).toNat) then bif PID.beq PID && ((PID + (1 : Nat)).beq (PID + (1 : Nat)) && decide ((0 : Int) ≤ (↑i : Int) ∧ (↑i : Int) < IntKind.i64.wrap ((↑j : Int) + (1 : Int)) ∧ IntKind.i64.wrap ((↑j : Int) + (1 : Int)) ≤ (↑es.length : Int) ∧ es.length ≤ (1000000 : Nat))) then k (Ex.exit (0 : Nat)) [AV.own (1125899906842624 : Nat), AV.fn (25 : Nat) [AV.ptr (1125899906842625 : Nat) (0 : Nat)], AV.int IntKind.i64 (↑(delN (oldE now) eE (es.length - (IntKind.i64.wrap ((↑j : Int) + (1 : Int))).toNat) es i (IntKind.i64.wrap ((↑j : Int) + (1 : Int))).toNat).snd : Int), AV.int IntKind.i64 (↑es.length : Int)] [some (Row.arr false (Sh.agg [Sh.str, Sh.str, Sh.str, Sh.int IntKind.i64, Sh.int IntKind.i64, Sh.bool]) e (delN (oldE now) eE (es.length - (IntKind.i64.wrap ((↑j : Int) + (1 : Int))).toNat) es i (IntKind.i64.wrap ((↑j : Int) + (1 : Int))).toNat).fst sp), some (Row.box false [AV.int IntKind.i64 now])] else none else none else none else none else k (Ex.exit (0 : Nat)) [AV.own (1125899906842624 : Nat), AV.fn (25 : Nat) [AV.ptr (1125899906842625 : Nat) (0 : Nat)], AV.int IntKind.i64 (↑i : Int), AV.int IntKind.i64 (↑j : Int)] [some (Row.arr false (Sh.agg [Sh.str, Sh.str, Sh.str, Sh.int IntKind.i64, Sh.int IntKind.i64, Sh.bool]) e es sp), some (Row.box false [AV.int IntKind.i64 now])]) (by kernel_rfl) ?_
    rw [← hk]
    by_cases hlt : j < es.length
    · have w1 : IntKind.i64.wrap ((j : Int) + 1) = ((j + 1 : Nat) : Int) := by rw [wrap_mid _ (by omega) (by omega)]; omega
      have w2 : IntKind.i64.wrap ((i : Int) + 1) = ((i + 1 : Nat) : Int) := by rw [wrap_mid _ (by omega) (by omega)]; omega
      have hd := delN_succ (oldE now) eE (es.length - (j + 1)) es i j
      rw [show es.length - (j + 1) + 1 = es.length - j from by omega] at hd
      rw [decide_eq_true (by omega : (j : Int) < es.length), inb_true (by omega) (by omega), decide_eq_true hlt, inb_true (by omega : (0 : Int) ≤ i) (by omega : (i : Int) < es.length), decide_eq_true (by omega : i < es.length), w1, w2, hd]
      simp only [cond_true, Int.toNat_natCast, List.length_set]
      show (bif !oldE now (es.getD j .unk) then _ else _) = _
      cases oldE now (es.getD j .unk)
      · simp only [cond_true, cond_false, Bool.not_false]
        refine Eq.trans (cond_t (decide_eq_true (by omega))) (Eq.trans (cond_t (and_t (Nat.beq_refl _) (and_t (Nat.beq_refl _) (decide_eq_true (by omega))))) ?_)
        rfl
      · simp only [cond_true, cond_false, Bool.not_true]
        refine Eq.trans (cond_t (decide_eq_true (by omega))) (Eq.trans (cond_t (and_t (Nat.beq_refl _) (and_t (Nat.beq_refl _) (decide_eq_true (by omega))))) ?_)
        rfl
    · obtain rfl : j = es.length := by omega
      rw [decide_eq_false (by omega), show es.length - es.length = 0 from by omega]
      rfl
  · cases h
def F24 : List AV → List Row → Tr XOut
  | [.own p, .fn 25 [.ptr q 0]], [.arr false (.agg [.str, .str, .str, .int .i64, .int .i64, .bool]) 33 es _, .box false [.int .i64 now]] =>
    .gd (Nat.beq p PID && (Nat.beq q (PID + 1) && (decide (es.length ≤ 1000000) && es.all (hasSh sE)))) (.leaf (.own RID, [none, some (.box false [.int .i64 now])], [.arr false sE 33 (es.filter fun x => !oldE now x) none]))
  | _, _ => .no
theorem ok24 : XOK Try.prog 24 (ofX F24) ∧ XNat (ofX F24) := by
  refine ⟨xsum1 (K := [(5, l24)]) (H := [(4, 9999, 33)]) (b := b24) (l := l24) g24 Try.func24 (by kernel_rfl) (by kernel_rfl) loop24 fun ρ avs rows k r h => ?_, xnat_ofX _⟩
  change (F24 avs rows).run _ = some r at h
  unfold F24 at h
  split at h
  · rename_i p q es csp now
    obtain ⟨hc, hk⟩ := gd_some h
    simp only [Bool.and_eq_true] at hc
    obtain ⟨c1, c2, c3, c4⟩ := hc
    have c3 := of_decide_eq_true c3
    have hca : ∀ x ∈ es, eE x = x := fun x hx => can_of (List.all_eq_true.1 c4 x hx)
    obtain rfl := Nat.eq_of_beq_eq_true c1
    obtain rfl := Nat.eq_of_beq_eq_true c2
    refine ⟨by simp, fun rows' hsp => ?_⟩
    obtain ⟨sp, rfl⟩ : ∃ sp, rows' = [.arr false sE 33 es (some sp), .box false [.int .i64 now]] := by
      match rows', hsp with
      | [r1, r2], ⟨⟨sp, h1, _⟩, h2, _⟩ => exact ⟨sp, by rw [h1, h2]⟩
    refine Eq.trans (b := delTree (oldE now) eE (zeroE Try.prog 33) es (findN (oldN now es) es.length 0) (fun i j => Nat.beq PID PID && (Nat.beq (PID + 1) (PID + 1) && decide (0 ≤ i ∧ i < j ∧ j ≤ es.length ∧ es.length ≤ 1000000))) fun l => k (.own RID) [none, some (.box false [.int .i64 now])] [.arr false sE 33 l none]) (by kernel_rfl) ?_
    refine Eq.trans (delTree_eq rfl c3 hca fun i hi => and_t (Nat.beq_refl _) (and_t (Nat.beq_refl _) (decide_eq_true (by omega)))) ?_
    exact hk
  · cases h
/-! Clone -/
noncomputable def GF : Env := { pure := [], fork := true }
theorem gf : GOK Try.prog GF := GOK.flags g0
def F21 : List AV → List Row → Tr XOut
  | [.slv (.agg [.str, .str, .str, .int .i64, .int .i64, .bool]) es], [] => .gd (decide (es.length ≤ 1000000)) (.leaf (.own RID, [], [.arr false sE 33 es none]))
  | _, _ => .no
theorem ok21 : XOK Try.prog 21 (ofX F21) ∧ XNat (ofX F21) := by
  refine ⟨xsum0 (H := [(2, 9999, 33)]) gf Try.func21 (by kernel_rfl) fun ρ avs rows k r h => ?_, xnat_ofX _⟩
  change (F21 avs rows).run _ = some r at h
  unfold F21 at h
  split at h
  · rename_i es
    obtain ⟨hc, hk⟩ := gd_some h
    have hc' := of_decide_eq_true hc
    refine ⟨by simp, fun rows' hsp => ?_⟩
    obtain rfl : rows' = [] := by cases rows' with | nil => rfl | cons a b => exact hsp.elim
    refine Eq.trans (b := bif es.isEmpty then both (k (AV.own (2251799813685248 : Nat)) [] [Row.arr false (Sh.agg [Sh.str, Sh.str, Sh.str, Sh.int IntKind.i64, Sh.int IntKind.i64, Sh.bool]) (33 : Nat) [] none]) (bif roomB es.length (Try.prog.bytesOf (33 : Nat)) then k (AV.own (2251799813685248 : Nat)) [] [Row.arr false (Sh.agg [Sh.str, Sh.str, Sh.str, Sh.int IntKind.i64, Sh.int IntKind.i64, Sh.bool]) (33 : Nat) es none] else none) else bif roomB es.length (Try.prog.bytesOf (33 : Nat)) then k (AV.own (2251799813685248 : Nat)) [] [Row.arr false (Sh.agg [Sh.str, Sh.str, Sh.str, Sh.int IntKind.i64, Sh.int IntKind.i64, Sh.bool]) (33 : Nat) es none] else none) (by kernel_rfl) ?_
    rw [← hk, roomB_small (by omega) byE]
    cases es with
    | nil => exact both_self _
    | cons x l => rfl
  · cases h
/-! Insert -/
noncomputable def GI : Env := { pure := [], opens := [(35, Fover)], ext := [836] }
theorem gi : GOK Try.prog GI := GOK.flags (Γ := { pure := [], opens := [(35, Fover)] }) (GOK.alsoX g0 (over_ok (tS := 22) (tR := 4) (e0 := 33) (i := (Try.prog.info? 33).getD default) Try.func35 (by kernel_rfl) (by kernel_rfl) (by kernel_rfl) (by kernel_rfl) (by kernel_rfl) (by kernel_rfl)))
def F26 : List AV → List Row → Tr XOut
  | [.own p, .int .i64 i, .own q], [.arr false (.agg [.str, .str, .str, .int .i64, .int .i64, .bool]) 33 es none, .arr false (.agg [.str, .str, .str, .int .i64, .int .i64, .bool]) 33 [.agg [.str hh, .str f, .str t, .int .i64 a, .int .i64 l, .bool kn]] none] =>
    .gd (Nat.beq p PID && (Nat.beq q (PID + 1) && decide (0 ≤ i ∧ i ≤ es.length ∧ es.length ≤ 100000))) (.leaf (.own RID, [none, none], [.arr false sE 33 (es.take i.toNat ++ xE hh f t a l kn :: es.drop i.toNat) none]))
  | _, _ => .no
theorem ok26 : XOK Try.prog 26 (ofX F26) ∧ XNat (ofX F26) := by
  refine ⟨xsum0 (H := [(DROP, PID, 0), (DROP, PID + 1, 0)]) gi Try.func26 (by kernel_rfl) fun ρ avs rows k r h => ?_, xnat_ofX _⟩
  change (F26 avs rows).run _ = some r at h
  unfold F26 at h
  split at h
  · rename_i p i' q es hh f t a l kn
    obtain ⟨hc, hk⟩ := gd_some h
    simp only [Bool.and_eq_true] at hc
    obtain ⟨c1, c2, c3⟩ := hc
    obtain ⟨c3, c4, c5⟩ := of_decide_eq_true c3
    obtain rfl := Nat.eq_of_beq_eq_true c1
    obtain rfl := Nat.eq_of_beq_eq_true c2
    obtain ⟨i, rfl⟩ : ∃ i : Nat, i' = i := ⟨i'.toNat, by omega⟩
    refine ⟨by simp, fun rows' hsp => ?_⟩
    obtain ⟨sp, sp2, rfl⟩ : ∃ sp sp2, rows' = [.arr false sE 33 es (some sp), .arr false sE 33 [.agg [.str hh, .str f, .str t, .int .i64 a, .int .i64 l, .bool kn]] (some sp2)] := by
      match rows', hsp with
      | [r1, r2], ⟨⟨sp, h1, _⟩, ⟨sp2, h2, _⟩, _⟩ => exact ⟨sp, sp2, by rw [h1, h2]⟩
    refine Eq.trans (b := insTree es sp (xE hh f t a l kn) (zeroE Try.prog 33) i (Try.prog.bytesOf 33) fun l => k (.own RID) [none, none] [.arr false sE 33 l none]) (by kernel_rfl) ?_
    rw [insTree_eq _ (by omega) (by omega) byE, ← hk]
    rfl
  · cases h
end Go.Proofs.Ytbkokbmodpkamaa
