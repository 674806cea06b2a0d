/-
  The classifier: Learn.
-/
import Derived.Test.YtpgaobdgohlegaaClC
namespace Go.Proofs.Ytpgaobdgohlegaa
open Go.Ev

def addT (junk : Bool) (e : AV) : AV := bif junk then tk (xOf e) (gOf e) (jOf e + 1) else tk (xOf e) (gOf e + 1) (jOf e)
def insW (es : List AV) (s : List UInt8) : List AV := bif isK s es then es else es.take (atK s es) ++ tk s 0 0 :: es.drop (atK s es)
def stepL (junk : Bool) (es : List AV) (t : AV) : List AV := (insW es (xOf t)).set (atK (xOf t) es) (addT junk ((insW es (xOf t)).getD (atK (xOf t) es) .unk))
def learnF (junk : Bool) (es ts : List AV) : List AV := ts.foldl (stepL junk) es
def inE (b : Int) (e : AV) : Bool := inR (gOf e) 0 b && inR (jOf e) 0 b
theorem atK_le (s : List UInt8) (es : List AV) : atK s es ≤ es.length := (bs_le (ltN s es) es.length 0 es.length (Nat.zero_le _)).1
theorem insW_len (es : List AV) (s : List UInt8) : atK s es < (insW es s).length ∧ (insW es s).length ≤ es.length + 1 := by
  have h := atK_le s es
  unfold insW
  cases hk : isK s es
  · simp only [cond_false, List.length_append, List.length_take, List.length_cons, List.length_drop]; omega
  · simp only [cond_true]
    unfold isK at hk
    simp only [Bool.and_eq_true, decide_eq_true_eq] at hk
    omega
theorem inE_mono {a b : Int} (h : a ≤ b) {e : AV} (he : inE a e = true) : inE b e = true := by
  unfold inE at he ⊢
  simp only [Bool.and_eq_true] at he ⊢
  obtain ⟨h1, h2⟩ := he
  obtain ⟨a1, a2⟩ := inR_spec h1
  obtain ⟨b1, b2⟩ := inR_spec h2
  exact ⟨inR_of a1 (by omega), inR_of b1 (by omega)⟩
theorem insW_all {es : List AV} {s : List UInt8} {b : Int} (hb : 0 ≤ b) (h : es.all (inE b) = true) : (insW es s).all (inE b) = true := by
  unfold insW
  cases isK s es
  · rw [cond_false, List.all_append, List.all_cons]
    have h1 : (es.take (atK s es)).all (inE b) = true := List.all_eq_true.2 fun x hx => List.all_eq_true.1 h x (List.mem_of_mem_take hx)
    have h2 : (es.drop (atK s es)).all (inE b) = true := List.all_eq_true.2 fun x hx => List.all_eq_true.1 h x (List.mem_of_mem_drop hx)
    have h3 : inE b (tk s 0 0) = true := by
      show (inR 0 0 b && inR 0 0 b) = true
      rw [inR_of (Int.le_refl 0) hb]; rfl
    rw [h1, h2, h3]; rfl
  · exact h
theorem stepL_ok {es : List AV} {t : AV} {b : Int} (junk : Bool) (hb : 0 ≤ b) (h : es.all (inE b) = true) : (stepL junk es t).all (inE (b + 1)) = true ∧ (stepL junk es t).length ≤ es.length + 1 := by
  obtain ⟨l1, l2⟩ := insW_len es (xOf t)
  have hi := insW_all (s := xOf t) hb h
  unfold stepL
  refine ⟨List.all_eq_true.2 fun x hx => ?_, by rw [List.length_set]; exact l2⟩
  rcases List.mem_or_eq_of_mem_set hx with h | h
  · exact inE_mono (by omega) (List.all_eq_true.1 hi x h)
  · have hm : (insW es (xOf t)).getD (atK (xOf t) es) .unk ∈ insW es (xOf t) := by rw [getD_eq l1]; exact List.getElem_mem l1
    have := List.all_eq_true.1 hi _ hm
    rw [h]
    generalize (insW es (xOf t)).getD (atK (xOf t) es) .unk = e at this
    unfold inE at this ⊢
    simp only [Bool.and_eq_true] at this ⊢
    obtain ⟨h1, h2⟩ := this
    obtain ⟨a1, a2⟩ := inR_spec h1
    obtain ⟨b1, b2⟩ := inR_spec h2
    cases junk
    · exact ⟨inR_of (by show 0 ≤ gOf e + 1; omega) (by show gOf e + 1 ≤ b + 1; omega), inR_of b1 (by show jOf e ≤ b + 1; omega)⟩
    · exact ⟨inR_of a1 (by show gOf e ≤ b + 1; omega), inR_of (by show 0 ≤ jOf e + 1; omega) (by show jOf e + 1 ≤ b + 1; omega)⟩
noncomputable def G12 : Env := { pure := (20, ofT F20) :: (22, ofT F22) :: G1.pure, opens := [(31, ofX F31), (30, ofX F30), (28, ofX F28)] }
theorem g12 : GOK Try.prog G12 := GOK.alsoX (GOK.alsoX (GOK.alsoX (GOK.also (GOK.also g1 ok22) ok20) ok28) ok30) ok31
noncomputable def b12 : Code := ((Try.f12.body.map loopsOf).getD []).headD .skip
def L12 : List AV → List (Option Row) → Tr LOut
  | [.bool junk, .ptr 0 0, .ptr 1 0, .ptr 2 0, .slv .str ts, .int .i64 n, .int .i64 i], [some (.box false [.int .i64 G, .int .i64 J, .own 900]), some (.box false [.int .i64 0, .int .i64 0, .slz (.agg [.str, .int .i64, .int .i64])]), some (.box false [.int .i64 0, .int .i64 0]), some (.arr false (.agg [.str, .int .i64, .int .i64]) 46 es none)] =>
    .gd (decide (n = ts.length ∧ 0 ≤ i ∧ i ≤ n ∧ n ≤ 1000 ∧ es.length ≤ 2000 + i) && es.all (inE (1000000 + i))) (.leaf (.exit 0, [.bool junk, .ptr 0 0, .ptr 1 0, .ptr 2 0, .slv .str ts, .int .i64 n, .int .i64 ts.length], [some (.box false [.int .i64 G, .int .i64 J, .own 900]), some (.box false [.int .i64 0, .int .i64 0, .slz sK]), some (.box false [.int .i64 0, .int .i64 0]), some (.arr false sK 46 (learnF junk es (ts.drop i.toNat)) none)]))
  | _, _ => .no
def l12 : Ev.Loop := ⟨{ len := 88, slots := [2, 3, 6, 7, 40, 41, 42], rows := [0, 1, 2, 900], cells := [(0, 2, 900, 46)] }, ofL L12⟩
def μ12 (vs : List AV) (_ : List (Option Row)) : Nat := match vs with
  | [_, _, _, _, _, .int _ n, .int _ i] => (n - i).toNat
  | _ => 0
theorem loop12 : LoopOK Try.prog G12 [(10, l12)] b12 l12 := by
  refine loopT g12.natOK rfl (KOK.nil (by kernel_rfl)) μ12 (fun ρ vs rs k r h => ?_)
  unfold L12 at h
  split at h
  · rename_i junk ts n i' G J es
    obtain ⟨hc, hk⟩ := gd_some h
    simp only [Bool.and_eq_true] at hc
    obtain ⟨hc, hall⟩ := hc
    obtain ⟨rfl, c1, c2, c3, c4⟩ := of_decide_eq_true hc
    obtain ⟨i, rfl⟩ : ∃ i : Nat, i' = i := ⟨i'.toNat, by omega⟩
    rw [Int.toNat_natCast] at hk
    refine Eq.trans (b := bif decide ((↑i : Int) < (↑ts.length : Int)) then bif inb (↑i : Int) ts.length then bif decide (es.length ≤ (1000000 : Nat)) then bif !isK (xOf (ts.getD i AV.unk)) es then bif ((fun x => PID + x) (0 : Nat)).beq PID && (((fun x => PID + x) ((fun x => x + (1 : Nat)) (0 : Nat))).beq (PID + (1 : Nat)) && decide ((0 : Int) ≤ (↑(atK (xOf (ts.getD i AV.unk)) es) : Int) ∧ (↑(atK (xOf (ts.getD i AV.unk)) es) : Int) ≤ (↑es.length : Int) ∧ es.length ≤ (100000 : Nat))) then bif inb (↑(atK (xOf (ts.getD i AV.unk)) es) : Int) (List.take (↑(atK (xOf (ts.getD i AV.unk)) es) : Int).toNat es ++ tk (xOf (ts.getD i AV.unk)) (0 : Int) (0 : Int) :: List.drop (↑(atK (xOf (ts.getD i AV.unk)) es) : Int).toNat es).length then bif inb (↑(atK (xOf (ts.getD i AV.unk)) es) : Int) (List.take (↑(atK (xOf (ts.getD i AV.unk)) es) : Int).toNat es ++ tk (xOf (ts.getD i AV.unk)) (0 : Int) (0 : Int) :: List.drop (↑(atK (xOf (ts.getD i AV.unk)) es) : Int).toNat es).length then bif junk then bif decide ((↑(atK (xOf (ts.getD i AV.unk)) es) : Int).toNat < (List.take (↑(atK (xOf (ts.getD i AV.unk)) es) : Int).toNat es ++ tk (xOf (ts.getD i AV.unk)) (0 : Int) (0 : Int) :: List.drop (↑(atK (xOf (ts.getD i AV.unk)) es) : Int).toNat es).length) then bif decide ((↑(atK (xOf (ts.getD i AV.unk)) es) : Int).toNat < (List.take (↑(atK (xOf (ts.getD i AV.unk)) es) : Int).toNat es ++ tk (xOf (ts.getD i AV.unk)) (0 : Int) (0 : Int) :: List.drop (↑(atK (xOf (ts.getD i AV.unk)) es) : Int).toNat es).length) then bif decide (((↑ts.length : Int) - IntKind.i64.wrap ((↑i : Int) + (1 : Int))).toNat < ((↑ts.length : Int) - (↑i : Int)).toNat) then bif decide ((↑ts.length : Int) = (↑ts.length : Int) ∧ (0 : Int) ≤ IntKind.i64.wrap ((↑i : Int) + (1 : Int)) ∧ IntKind.i64.wrap ((↑i : Int) + (1 : Int)) ≤ (↑ts.length : Int) ∧ (↑ts.length : Int) ≤ (1000 : Int) ∧ (↑((List.take (↑(atK (xOf (ts.getD i AV.unk)) es) : Int).toNat es ++ tk (xOf (ts.getD i AV.unk)) (0 : Int) (0 : Int) :: List.drop (↑(atK (xOf (ts.getD i AV.unk)) es) : Int).toNat es).set (↑(atK (xOf (ts.getD i AV.unk)) es) : Int).toNat (AV.agg [AV.str (xOf ((List.take (↑(atK (xOf (ts.getD i AV.unk)) es) : Int).toNat es ++ tk (xOf (ts.getD i AV.unk)) (0 : Int) (0 : Int) :: List.drop (↑(atK (xOf (ts.getD i AV.unk)) es) : Int).toNat es).getD (↑(atK (xOf (ts.getD i AV.unk)) es) : Int).toNat AV.unk)), AV.int IntKind.i64 (gOf ((List.take (↑(atK (xOf (ts.getD i AV.unk)) es) : Int).toNat es ++ tk (xOf (ts.getD i AV.unk)) (0 : Int) (0 : Int) :: List.drop (↑(atK (xOf (ts.getD i AV.unk)) es) : Int).toNat es).getD (↑(atK (xOf (ts.getD i AV.unk)) es) : Int).toNat AV.unk)), AV.int IntKind.i64 (IntKind.i64.wrap ((jOf ((List.take (↑(atK (xOf (ts.getD i AV.unk)) es) : Int).toNat es ++ tk (xOf (ts.getD i AV.unk)) (0 : Int) (0 : Int) :: List.drop (↑(atK (xOf (ts.getD i AV.unk)) es) : Int).toNat es).getD (↑(atK (xOf (ts.getD i AV.unk)) es) : Int).toNat AV.unk)) + (1 : Int)))])).length : Int) ≤ (2000 : Int) + IntKind.i64.wrap ((↑i : Int) + (1 : Int))) && ((List.take (↑(atK (xOf (ts.getD i AV.unk)) es) : Int).toNat es ++ tk (xOf (ts.getD i AV.unk)) (0 : Int) (0 : Int) :: List.drop (↑(atK (xOf (ts.getD i AV.unk)) es) : Int).toNat es).set (↑(atK (xOf (ts.getD i AV.unk)) es) : Int).toNat (AV.agg [AV.str (xOf ((List.take (↑(atK (xOf (ts.getD i AV.unk)) es) : Int).toNat es ++ tk (xOf (ts.getD i AV.unk)) (0 : Int) (0 : Int) :: List.drop (↑(atK (xOf (ts.getD i AV.unk)) es) : Int).toNat es).getD (↑(atK (xOf (ts.getD i AV.unk)) es) : Int).toNat AV.unk)), AV.int IntKind.i64 (gOf ((List.take (↑(atK (xOf (ts.getD i AV.unk)) es) : Int).toNat es ++ tk (xOf (ts.getD i AV.unk)) (0 : Int) (0 : Int) :: List.drop (↑(atK (xOf (ts.getD i AV.unk)) es) : Int).toNat es).getD (↑(atK (xOf (ts.getD i AV.unk)) es) : Int).toNat AV.unk)), AV.int IntKind.i64 (IntKind.i64.wrap ((jOf ((List.take (↑(atK (xOf (ts.getD i AV.unk)) es) : Int).toNat es ++ tk (xOf (ts.getD i AV.unk)) (0 : Int) (0 : Int) :: List.drop (↑(atK (xOf (ts.getD i AV.unk)) es) : Int).toNat es).getD (↑(atK (xOf (ts.getD i AV.unk)) es) : Int).toNat AV.unk)) + (1 : Int)))])).all (inE ((1000000 : Int) + IntKind.i64.wrap ((↑i : Int) + (1 : Int)))) then k (Ex.exit (0 : Nat)) [AV.bool junk, AV.ptr (0 : Nat) (0 : Nat), AV.ptr (1 : Nat) (0 : Nat), AV.ptr (2 : Nat) (0 : Nat), AV.slv Sh.str ts, AV.int IntKind.i64 (↑ts.length : Int), AV.int IntKind.i64 (↑ts.length : Int)] [some (Row.box false [AV.int IntKind.i64 G, AV.int IntKind.i64 J, AV.own (900 : Nat)]), some (Row.box false [AV.int IntKind.i64 (0 : Int), AV.int IntKind.i64 (0 : Int), AV.slz (Sh.agg [Sh.str, Sh.int IntKind.i64, Sh.int IntKind.i64])]), some (Row.box false [AV.int IntKind.i64 (0 : Int), AV.int IntKind.i64 (0 : Int)]), some (Row.arr false (Sh.agg [Sh.str, Sh.int IntKind.i64, Sh.int IntKind.i64]) (46 : Nat) (learnF junk ((List.take (↑(atK (xOf (ts.getD i AV.unk)) es) : Int).toNat es ++ tk (xOf (ts.getD i AV.unk)) (0 : Int) (0 : Int) :: List.drop (↑(atK (xOf (ts.getD i AV.unk)) es) : Int).toNat es).set (↑(atK (xOf (ts.getD i AV.unk)) es) : Int).toNat (AV.agg [AV.str (xOf ((List.take (↑(atK (xOf (ts.getD i AV.unk)) es) : Int).toNat es ++ tk (xOf (ts.getD i AV.unk)) (0 : Int) (0 : Int) :: List.drop (↑(atK (xOf (ts.getD i AV.unk)) es) : Int).toNat es).getD (↑(atK (xOf (ts.getD i AV.unk)) es) : Int).toNat AV.unk)), AV.int IntKind.i64 (gOf ((List.take (↑(atK (xOf (ts.getD i AV.unk)) es) : Int).toNat es ++ tk (xOf (ts.getD i AV.unk)) (0 : Int) (0 : Int) :: List.drop (↑(atK (xOf (ts.getD i AV.unk)) es) : Int).toNat es).getD (↑(atK (xOf (ts.getD i AV.unk)) es) : Int).toNat AV.unk)), AV.int IntKind.i64 (IntKind.i64.wrap ((jOf ((List.take (↑(atK (xOf (ts.getD i AV.unk)) es) : Int).toNat es ++ tk (xOf (ts.getD i AV.unk)) (0 : Int) (0 : Int) :: List.drop (↑(atK (xOf (ts.getD i AV.unk)) es) : Int).toNat es).getD (↑(atK (xOf (ts.getD i AV.unk)) es) : Int).toNat AV.unk)) + (1 : Int)))])) (List.drop (IntKind.i64.wrap ((↑i : Int) + (1 : Int))).toNat ts)) none)] else none else none else none else none else bif decide ((↑(atK (xOf (ts.getD i AV.unk)) es) : Int).toNat < (List.take (↑(atK (xOf (ts.getD i AV.unk)) es) : Int).toNat es ++ tk (xOf (ts.getD i AV.unk)) (0 : Int) (0 : Int) :: List.drop (↑(atK (xOf (ts.getD i AV.unk)) es) : Int).toNat es).length) then bif decide ((↑(atK (xOf (ts.getD i AV.unk)) es) : Int).toNat < (List.take (↑(atK (xOf (ts.getD i AV.unk)) es) : Int).toNat es ++ tk (xOf (ts.getD i AV.unk)) (0 : Int) (0 : Int) :: List.drop (↑(atK (xOf (ts.getD i AV.unk)) es) : Int).toNat es).length) then bif decide (((↑ts.length : Int) - IntKind.i64.wrap ((↑i : Int) + (1 : Int))).toNat < ((↑ts.length : Int) - (↑i : Int)).toNat) then bif decide ((↑ts.length : Int) = (↑ts.length : Int) ∧ (0 : Int) ≤ IntKind.i64.wrap ((↑i : Int) + (1 : Int)) ∧ IntKind.i64.wrap ((↑i : Int) + (1 : Int)) ≤ (↑ts.length : Int) ∧ (↑ts.length : Int) ≤ (1000 : Int) ∧ (↑((List.take (↑(atK (xOf (ts.getD i AV.unk)) es) : Int).toNat es ++ tk (xOf (ts.getD i AV.unk)) (0 : Int) (0 : Int) :: List.drop (↑(atK (xOf (ts.getD i AV.unk)) es) : Int).toNat es).set (↑(atK (xOf (ts.getD i AV.unk)) es) : Int).toNat (AV.agg [AV.str (xOf ((List.take (↑(atK (xOf (ts.getD i AV.unk)) es) : Int).toNat es ++ tk (xOf (ts.getD i AV.unk)) (0 : Int) (0 : Int) :: List.drop (↑(atK (xOf (ts.getD i AV.unk)) es) : Int).toNat es).getD (↑(atK (xOf (ts.getD i AV.unk)) es) : Int).toNat AV.unk)), AV.int IntKind.i64 (IntKind.i64.wrap ((gOf ((List.take (↑(atK (xOf (ts.getD i AV.unk)) es) : Int).toNat es ++ tk (xOf (ts.getD i AV.unk)) (0 : Int) (0 : Int) :: List.drop (↑(atK (xOf (ts.getD i AV.unk)) es) : Int).toNat es).getD (↑(atK (xOf (ts.getD i AV.unk)) es) : Int).toNat AV.unk)) + (1 : Int))), AV.int IntKind.i64 (jOf ((List.take (↑(atK (xOf (ts.getD i AV.unk)) es) : Int).toNat es ++ tk (xOf (ts.getD i AV.unk)) (0 : Int) (0 : Int) :: List.drop (↑(atK (xOf (ts.getD i AV.unk)) es) : Int).toNat es).getD (↑(atK (xOf (ts.getD i AV.unk)) es) : Int).toNat AV.unk))])).length : Int) ≤ (2000 : Int) + IntKind.i64.wrap ((↑i : Int) + (1 : Int))) && ((List.take (↑(atK (xOf (ts.getD i AV.unk)) es) : Int).toNat es ++ tk (xOf (ts.getD i AV.unk)) (0 : Int) (0 : Int) :: List.drop (↑(atK (xOf (ts.getD i AV.unk)) es) : Int).toNat es).set (↑(atK (xOf (ts.getD i AV.unk)) es) : Int).toNat (AV.agg [AV.str (xOf ((List.take (↑(atK (xOf (ts.getD i AV.unk)) es) : Int).toNat es ++ tk (xOf (ts.getD i AV.unk)) (0 : Int) (0 : Int) :: List.drop (↑(atK (xOf (ts.getD i AV.unk)) es) : Int).toNat es).getD (↑(atK (xOf (ts.getD i AV.unk)) es) : Int).toNat AV.unk)), AV.int IntKind.i64 (IntKind.i64.wrap ((gOf ((List.take (↑(atK (xOf (ts.getD i AV.unk)) es) : Int).toNat es ++ tk (xOf (ts.getD i AV.unk)) (0 : Int) (0 : Int) :: List.drop (↑(atK (xOf (ts.getD i AV.unk)) es) : Int).toNat es).getD (↑(atK (xOf (ts.getD i AV.unk)) es) : Int).toNat AV.unk)) + (1 : Int))), AV.int IntKind.i64 (jOf ((List.take (↑(atK (xOf (ts.getD i AV.unk)) es) : Int).toNat es ++ tk (xOf (ts.getD i AV.unk)) (0 : Int) (0 : Int) :: List.drop (↑(atK (xOf (ts.getD i AV.unk)) es) : Int).toNat es).getD (↑(atK (xOf (ts.getD i AV.unk)) es) : Int).toNat AV.unk))])).all (inE ((1000000 : Int) + IntKind.i64.wrap ((↑i : Int) + (1 : Int)))) then k (Ex.exit (0 : Nat)) [AV.bool junk, AV.ptr (0 : Nat) (0 : Nat), AV.ptr (1 : Nat) (0 : Nat), AV.ptr (2 : Nat) (0 : Nat), AV.slv Sh.str ts, AV.int IntKind.i64 (↑ts.length : Int), AV.int IntKind.i64 (↑ts.length : Int)] [some (Row.box false [AV.int IntKind.i64 G, AV.int IntKind.i64 J, AV.own (900 : Nat)]), some (Row.box false [AV.int IntKind.i64 (0 : Int), AV.int IntKind.i64 (0 : Int), AV.slz (Sh.agg [Sh.str, Sh.int IntKind.i64, Sh.int IntKind.i64])]), some (Row.box false [AV.int IntKind.i64 (0 : Int), AV.int IntKind.i64 (0 : Int)]), some (Row.arr false (Sh.agg [Sh.str, Sh.int IntKind.i64, Sh.int IntKind.i64]) (46 : Nat) (learnF junk ((List.take (↑(atK (xOf (ts.getD i AV.unk)) es) : Int).toNat es ++ tk (xOf (ts.getD i AV.unk)) (0 : Int) (0 : Int) :: List.drop (↑(atK (xOf (ts.getD i AV.unk)) es) : Int).toNat es).set (↑(atK (xOf (ts.getD i AV.unk)) es) : Int).toNat (AV.agg [AV.str (xOf ((List.take (↑(atK (xOf (ts.getD i AV.unk)) es) : Int).toNat es ++ tk (xOf (ts.getD i AV.unk)) (0 : Int) (0 : Int) :: List.drop (↑(atK (xOf (ts.getD i AV.unk)) es) : Int).toNat es).getD (↑(atK (xOf (ts.getD i AV.unk)) es) : Int).toNat AV.unk)), AV.int IntKind.i64 (IntKind.i64.wrap ((gOf ((List.take (↑(atK (xOf (ts.getD i AV.unk)) es) : Int).toNat es ++ tk (xOf (ts.getD i AV.unk)) (0 : Int) (0 : Int) :: List.drop (↑(atK (xOf (ts.getD i AV.unk)) es) : Int).toNat es).getD (↑(atK (xOf (ts.getD i AV.unk)) es) : Int).toNat AV.unk)) + (1 : Int))), AV.int IntKind.i64 (jOf ((List.take (↑(atK (xOf (ts.getD i AV.unk)) es) : Int).toNat es ++ tk (xOf (ts.getD i AV.unk)) (0 : Int) (0 : Int) :: List.drop (↑(atK (xOf (ts.getD i AV.unk)) es) : Int).toNat es).getD (↑(atK (xOf (ts.getD i AV.unk)) es) : Int).toNat AV.unk))])) (List.drop (IntKind.i64.wrap ((↑i : Int) + (1 : Int))).toNat ts)) none)] else none else none else none else none else none else none else none else bif inb (↑(atK (xOf (ts.getD i AV.unk)) es) : Int) es.length then bif inb (↑(atK (xOf (ts.getD i AV.unk)) es) : Int) es.length then bif junk then bif decide ((↑(atK (xOf (ts.getD i AV.unk)) es) : Int).toNat < es.length) then bif decide ((↑(atK (xOf (ts.getD i AV.unk)) es) : Int).toNat < es.length) then bif decide (((↑ts.length : Int) - IntKind.i64.wrap ((↑i : Int) + (1 : Int))).toNat < ((↑ts.length : Int) - (↑i : Int)).toNat) then bif decide ((↑ts.length : Int) = (↑ts.length : Int) ∧ (0 : Int) ≤ IntKind.i64.wrap ((↑i : Int) + (1 : Int)) ∧ IntKind.i64.wrap ((↑i : Int) + (1 : Int)) ≤ (↑ts.length : Int) ∧ (↑ts.length : Int) ≤ (1000 : Int) ∧ (↑(es.set (↑(atK (xOf (ts.getD i AV.unk)) es) : Int).toNat (AV.agg [AV.str (xOf (es.getD (↑(atK (xOf (ts.getD i AV.unk)) es) : Int).toNat AV.unk)), AV.int IntKind.i64 (gOf (es.getD (↑(atK (xOf (ts.getD i AV.unk)) es) : Int).toNat AV.unk)), AV.int IntKind.i64 (IntKind.i64.wrap ((jOf (es.getD (↑(atK (xOf (ts.getD i AV.unk)) es) : Int).toNat AV.unk)) + (1 : Int)))])).length : Int) ≤ (2000 : Int) + IntKind.i64.wrap ((↑i : Int) + (1 : Int))) && (es.set (↑(atK (xOf (ts.getD i AV.unk)) es) : Int).toNat (AV.agg [AV.str (xOf (es.getD (↑(atK (xOf (ts.getD i AV.unk)) es) : Int).toNat AV.unk)), AV.int IntKind.i64 (gOf (es.getD (↑(atK (xOf (ts.getD i AV.unk)) es) : Int).toNat AV.unk)), AV.int IntKind.i64 (IntKind.i64.wrap ((jOf (es.getD (↑(atK (xOf (ts.getD i AV.unk)) es) : Int).toNat AV.unk)) + (1 : Int)))])).all (inE ((1000000 : Int) + IntKind.i64.wrap ((↑i : Int) + (1 : Int)))) then k (Ex.exit (0 : Nat)) [AV.bool junk, AV.ptr (0 : Nat) (0 : Nat), AV.ptr (1 : Nat) (0 : Nat), AV.ptr (2 : Nat) (0 : Nat), AV.slv Sh.str ts, AV.int IntKind.i64 (↑ts.length : Int), AV.int IntKind.i64 (↑ts.length : Int)] [some (Row.box false [AV.int IntKind.i64 G, AV.int IntKind.i64 J, AV.own (900 : Nat)]), some (Row.box false [AV.int IntKind.i64 (0 : Int), AV.int IntKind.i64 (0 : Int), AV.slz (Sh.agg [Sh.str, Sh.int IntKind.i64, Sh.int IntKind.i64])]), some (Row.box false [AV.int IntKind.i64 (0 : Int), AV.int IntKind.i64 (0 : Int)]), some (Row.arr false (Sh.agg [Sh.str, Sh.int IntKind.i64, Sh.int IntKind.i64]) (46 : Nat) (learnF junk (es.set (↑(atK (xOf (ts.getD i AV.unk)) es) : Int).toNat (AV.agg [AV.str (xOf (es.getD (↑(atK (xOf (ts.getD i AV.unk)) es) : Int).toNat AV.unk)), AV.int IntKind.i64 (gOf (es.getD (↑(atK (xOf (ts.getD i AV.unk)) es) : Int).toNat AV.unk)), AV.int IntKind.i64 (IntKind.i64.wrap ((jOf (es.getD (↑(atK (xOf (ts.getD i AV.unk)) es) : Int).toNat AV.unk)) + (1 : Int)))])) (List.drop (IntKind.i64.wrap ((↑i : Int) + (1 : Int))).toNat ts)) none)] else none else none else none else none else bif decide ((↑(atK (xOf (ts.getD i AV.unk)) es) : Int).toNat < es.length) then bif decide ((↑(atK (xOf (ts.getD i AV.unk)) es) : Int).toNat < es.length) then bif decide (((↑ts.length : Int) - IntKind.i64.wrap ((↑i : Int) + (1 : Int))).toNat < ((↑ts.length : Int) - (↑i : Int)).toNat) then bif decide ((↑ts.length : Int) = (↑ts.length : Int) ∧ (0 : Int) ≤ IntKind.i64.wrap ((↑i : Int) + (1 : Int)) ∧ IntKind.i64.wrap ((↑i : Int) + (1 : Int)) ≤ (↑ts.length : Int) ∧ (↑ts.length : Int) ≤ (1000 : Int) ∧ (↑(es.set (↑(atK (xOf (ts.getD i AV.unk)) es) : Int).toNat (AV.agg [AV.str (xOf (es.getD (↑(atK (xOf (ts.getD i AV.unk)) es) : Int).toNat AV.unk)), AV.int IntKind.i64 (IntKind.i64.wrap ((gOf (es.getD (↑(atK (xOf (ts.getD i AV.unk)) es) : Int).toNat AV.unk)) + (1 : Int))), AV.int IntKind.i64 (jOf (es.getD (↑(atK (xOf (ts.getD i AV.unk)) es) : Int).toNat AV.unk))])).length : Int) ≤ (2000 : Int) + IntKind.i64.wrap ((↑i : Int) + (1 : Int))) && (es.set (↑(atK (xOf (ts.getD i AV.unk)) es) : Int).toNat (AV.agg [AV.str (xOf (es.getD (↑(atK (xOf (ts.getD i AV.unk)) es) : Int).toNat AV.unk)), AV.int IntKind.i64 (IntKind.i64.wrap ((gOf (es.getD (↑(atK (xOf (ts.getD i AV.unk)) es) : Int).toNat AV.unk)) + (1 : Int))), AV.int IntKind.i64 (jOf (es.getD (↑(atK (xOf (ts.getD i AV.unk)) es) : Int).toNat AV.unk))])).all (inE ((1000000 : Int) + IntKind.i64.wrap ((↑i : Int) + (1 : Int)))) then k (Ex.exit (0 : Nat)) [AV.bool junk, AV.ptr (0 : Nat) (0 : Nat), AV.ptr (1 : Nat) (0 : Nat), AV.ptr (2 : Nat) (0 : Nat), AV.slv Sh.str ts, AV.int IntKind.i64 (↑ts.length : Int), AV.int IntKind.i64 (↑ts.length : Int)] [some (Row.box false [AV.int IntKind.i64 G, AV.int IntKind.i64 J, AV.own (900 : Nat)]), some (Row.box false [AV.int IntKind.i64 (0 : Int), AV.int IntKind.i64 (0 : Int), AV.slz (Sh.agg [Sh.str, Sh.int IntKind.i64, Sh.int IntKind.i64])]), some (Row.box false [AV.int IntKind.i64 (0 : Int), AV.int IntKind.i64 (0 : Int)]), some (Row.arr false (Sh.agg [Sh.str, Sh.int IntKind.i64, Sh.int IntKind.i64]) (46 : Nat) (learnF junk (es.set (↑(atK (xOf (ts.getD i AV.unk)) es) : Int).toNat (AV.agg [AV.str (xOf (es.getD (↑(atK (xOf (ts.getD i AV.unk)) es) : Int).toNat AV.unk)), AV.int IntKind.i64 (IntKind.i64.wrap ((gOf (es.getD (↑(atK (xOf (ts.getD i AV.unk)) es) : Int).toNat AV.unk)) + (1 : Int))), AV.int IntKind.i64 (jOf (es.getD (↑(atK (xOf (ts.getD i AV.unk)) es) : Int).toNat AV.unk))])) (List.drop (IntKind.i64.wrap ((↑i : Int) + (1 : Int))).toNat ts)) none)] else none else none else none else none else none else none else none else none else k (Ex.exit (0 : Nat)) [AV.bool junk, AV.ptr (0 : Nat) (0 : Nat), AV.ptr (1 : Nat) (0 : Nat), AV.ptr (2 : Nat) (0 : Nat), AV.slv Sh.str ts, AV.int IntKind.i64 (↑ts.length : Int), AV.int IntKind.i64 (↑i : Int)] [some (Row.box false [AV.int IntKind.i64 G, AV.int IntKind.i64 J, AV.own (900 : Nat)]), some (Row.box false [AV.int IntKind.i64 (0 : Int), AV.int IntKind.i64 (0 : Int), AV.slz (Sh.agg [Sh.str, Sh.int IntKind.i64, Sh.int IntKind.i64])]), some (Row.box false [AV.int IntKind.i64 (0 : Int), AV.int IntKind.i64 (0 : Int)]), some (Row.arr false (Sh.agg [Sh.str, Sh.int IntKind.i64, Sh.int IntKind.i64]) (46 : Nat) es none)]) (by kernel_rfl) ?_
    rw [← hk]
    by_cases hlt : i < ts.length
    · have w1 : IntKind.i64.wrap ((i : Int) + 1) = ((i + 1 : Nat) : Int) := by rw [wrap_mid _ (by omega) (by omega)]; omega
      obtain ⟨l1, l2⟩ := insW_len es (xOf (ts.getD i .unk))
      have hi := insW_all (s := xOf (ts.getD i .unk)) (by omega) hall
      obtain ⟨st1, st2⟩ := stepL_ok (t := ts.getD i .unk) junk (by omega) hall
      have hat := atK_le (xOf (ts.getD i .unk)) es
      have hm : (insW es (xOf (ts.getD i .unk))).getD (atK (xOf (ts.getD i .unk)) es) .unk ∈ insW es (xOf (ts.getD i .unk)) := by rw [getD_eq l1]; exact List.getElem_mem l1
      have hin := List.all_eq_true.1 hi _ hm
      unfold inE at hin
      simp only [Bool.and_eq_true] at hin
      obtain ⟨g0, g1⟩ := inR_spec hin.1
      obtain ⟨j0, j1⟩ := inR_spec hin.2
      have wj : IntKind.i64.wrap (jOf ((insW es (xOf (ts.getD i .unk))).getD (atK (xOf (ts.getD i .unk)) es) .unk) + 1) = jOf ((insW es (xOf (ts.getD i .unk))).getD (atK (xOf (ts.getD i .unk)) es) .unk) + 1 := wrap_mid _ (by omega) (by omega)
      have wg : IntKind.i64.wrap (gOf ((insW es (xOf (ts.getD i .unk))).getD (atK (xOf (ts.getD i .unk)) es) .unk) + 1) = gOf ((insW es (xOf (ts.getD i .unk))).getD (atK (xOf (ts.getD i .unk)) es) .unk) + 1 := wrap_mid _ (by omega) (by omega)
      have fin : ∀ V : List AV, V = insW es (xOf (ts.getD i .unk)) →
          (bif inb (atK (xOf (ts.getD i .unk)) es : Int) V.length then bif inb (atK (xOf (ts.getD i .unk)) es : Int) V.length then
            bif junk then bif decide (((atK (xOf (ts.getD i .unk)) es : Nat) : Int).toNat < V.length) then bif decide (((atK (xOf (ts.getD i .unk)) es : Nat) : Int).toNat < V.length) then bif decide (((ts.length : Int) - IntKind.i64.wrap ((i : Int) + 1)).toNat < ((ts.length : Int) - (i : Int)).toNat) then
              (fun X : List AV => bif decide ((ts.length : Int) = (ts.length : Int) ∧ 0 ≤ IntKind.i64.wrap ((i : Int) + 1) ∧ IntKind.i64.wrap ((i : Int) + 1) ≤ (ts.length : Int) ∧ (ts.length : Int) ≤ 1000 ∧ (X.length : Int) ≤ 2000 + IntKind.i64.wrap ((i : Int) + 1)) && X.all (inE (1000000 + IntKind.i64.wrap ((i : Int) + 1))) then k (.exit 0) [.bool junk, .ptr 0 0, .ptr 1 0, .ptr 2 0, .slv .str ts, .int .i64 ts.length, .int .i64 ts.length] [some (.box false [.int .i64 G, .int .i64 J, .own 900]), some (.box false [.int .i64 0, .int .i64 0, .slz sK]), some (.box false [.int .i64 0, .int .i64 0]), some (.arr false sK 46 (learnF junk X (ts.drop (IntKind.i64.wrap ((i : Int) + 1)).toNat)) none)] else none)
                (V.set ((atK (xOf (ts.getD i .unk)) es : Nat) : Int).toNat (.agg [.str (xOf (V.getD ((atK (xOf (ts.getD i .unk)) es : Nat) : Int).toNat .unk)), .int .i64 (gOf (V.getD ((atK (xOf (ts.getD i .unk)) es : Nat) : Int).toNat .unk)), .int .i64 (IntKind.i64.wrap (jOf (V.getD ((atK (xOf (ts.getD i .unk)) es : Nat) : Int).toNat .unk) + 1))])) else none else none else none
            else bif decide (((atK (xOf (ts.getD i .unk)) es : Nat) : Int).toNat < V.length) then bif decide (((atK (xOf (ts.getD i .unk)) es : Nat) : Int).toNat < V.length) then bif decide (((ts.length : Int) - IntKind.i64.wrap ((i : Int) + 1)).toNat < ((ts.length : Int) - (i : Int)).toNat) then
              (fun X : List AV => bif decide ((ts.length : Int) = (ts.length : Int) ∧ 0 ≤ IntKind.i64.wrap ((i : Int) + 1) ∧ IntKind.i64.wrap ((i : Int) + 1) ≤ (ts.length : Int) ∧ (ts.length : Int) ≤ 1000 ∧ (X.length : Int) ≤ 2000 + IntKind.i64.wrap ((i : Int) + 1)) && X.all (inE (1000000 + IntKind.i64.wrap ((i : Int) + 1))) then k (.exit 0) [.bool junk, .ptr 0 0, .ptr 1 0, .ptr 2 0, .slv .str ts, .int .i64 ts.length, .int .i64 ts.length] [some (.box false [.int .i64 G, .int .i64 J, .own 900]), some (.box false [.int .i64 0, .int .i64 0, .slz sK]), some (.box false [.int .i64 0, .int .i64 0]), some (.arr false sK 46 (learnF junk X (ts.drop (IntKind.i64.wrap ((i : Int) + 1)).toNat)) none)] else none)
                (V.set ((atK (xOf (ts.getD i .unk)) es : Nat) : Int).toNat (.agg [.str (xOf (V.getD ((atK (xOf (ts.getD i .unk)) es : Nat) : Int).toNat .unk)), .int .i64 (IntKind.i64.wrap (gOf (V.getD ((atK (xOf (ts.getD i .unk)) es : Nat) : Int).toNat .unk) + 1)), .int .i64 (jOf (V.getD ((atK (xOf (ts.getD i .unk)) es : Nat) : Int).toNat .unk))])) else none else none else none
          else none else none) = k (.exit 0) [.bool junk, .ptr 0 0, .ptr 1 0, .ptr 2 0, .slv .str ts, .int .i64 ts.length, .int .i64 ts.length] [some (.box false [.int .i64 G, .int .i64 J, .own 900]), some (.box false [.int .i64 0, .int .i64 0, .slz sK]), some (.box false [.int .i64 0, .int .i64 0]), some (.arr false sK 46 (learnF junk es (ts.drop i)) none)] := fun V hV => by
        subst hV
        rw [w1, Int.toNat_natCast, Int.toNat_natCast, wj, wg, inb_true (by omega) (by omega), drop_getD hlt]
        have hX : (stepL junk es (ts.getD i .unk)).all (inE (1000000 + ((i + 1 : Nat) : Int))) = true := by
          rw [show 1000000 + ((i + 1 : Nat) : Int) = 1000000 + (i : Int) + 1 from by omega]; exact st1
        cases junk
        · exact Eq.trans (cond_t rfl) (Eq.trans (cond_t rfl) (Eq.trans (cond_f rfl) (Eq.trans (cond_t (decide_eq_true l1)) (Eq.trans (cond_t (decide_eq_true l1)) (Eq.trans (cond_t (decide_eq_true (by omega))) (cond_t (and_t (decide_eq_true ⟨rfl, by omega, by omega, by omega, by rw [List.length_set]; omega⟩) hX)))))))
        · exact Eq.trans (cond_t rfl) (Eq.trans (cond_t rfl) (Eq.trans (cond_t rfl) (Eq.trans (cond_t (decide_eq_true l1)) (Eq.trans (cond_t (decide_eq_true l1)) (Eq.trans (cond_t (decide_eq_true (by omega))) (cond_t (and_t (decide_eq_true ⟨rfl, by omega, by omega, by omega, by rw [List.length_set]; omega⟩) hX)))))))
      refine Eq.trans (cond_t (decide_eq_true (by omega))) (Eq.trans (cond_t (inb_true (by omega) (by omega))) (Eq.trans (cond_t (decide_eq_true (by omega))) ?_))
      cases hk2 : isK (xOf (ts.getD i .unk)) es
      · refine Eq.trans (cond_t rfl) (Eq.trans (cond_t (and_t rfl (and_t rfl (decide_eq_true ⟨by omega, by omega, by omega⟩)))) ?_)
        exact fin _ (by unfold insW; rw [hk2]; rfl)
      · refine Eq.trans (cond_f rfl) ?_
        exact fin es (by unfold insW; rw [hk2]; rfl)
    · obtain rfl : i = ts.length := by omega
      rw [decide_eq_false (by omega), List.drop_length]
      rfl
  · cases h
theorem bltO : SO blt := ⟨blt_irrefl, blt_trans, blt_total⟩
def okT (G J : Int) (x : AV) : Prop := nmB (xOf x) = true ∧ (0 ≤ gOf x ∧ gOf x ≤ G) ∧ (0 ≤ jOf x ∧ jOf x ≤ J) ∧ (gOf x = 0 → jOf x ≠ 0)
theorem ord_lt {es : List AV} {x : AV} {i : Nat} (h : ordN es x i = false) (hi : 0 < i) : blt (xOf (es.getD (i - 1) .unk)) (xOf x) = true := by
  unfold ordN at h
  rw [decide_eq_true (by omega), Bool.true_and, Bool.or_eq_false_iff] at h
  cases hb : blt (xOf (es.getD (i - 1) .unk)) (xOf x)
  · have := blt_total hb h.1
    rw [this] at h
    simp at h
  · rfl
theorem lt_ord {es : List AV} {x : AV} {i : Nat} (h : 0 < i → blt (xOf (es.getD (i - 1) .unk)) (xOf x) = true) : ordN es x i = false := by
  unfold ordN
  by_cases hi : 0 < i
  · have h1 := blt_asymm (h hi)
    have h2 := blt_ne (h hi)
    unfold blt at h1
    rw [h1, Bool.false_or, show (xOf x == xOf (es.getD (i - 1) .unk)) = (xOf (es.getD (i - 1) .unk) == xOf x) from Bool.beq_comm, h2, Bool.and_false]
  · rw [decide_eq_false (by omega)]; rfl
structure Wd (G J : Int) (es : List AV) : Prop where
  g0 : 0 ≤ G
  g1 : G ≤ 1000000
  j0 : 0 ≤ J
  j1 : J ≤ 1000000
  len : es.length ≤ 2000
  all : ∀ e ∈ es, okT G J e
  srt : Srt xOf blt es
structure Tk (ts : List AV) : Prop where
  len : ts.length ≤ 1000
  all : ∀ t ∈ ts, nmB (xOf t) = true
  srt : Srt xOf blt ts
theorem Wd.of {G J : Int} {es : List AV} (h : (wordsF G J es).1 = 0) : Wd G J es := by
  unfold wordsF at h
  cases hG : inR G 0 1000000
  · rw [hG] at h; cases h
  · cases hJ : inR J 0 1000000
    · rw [hG, hJ] at h; cases h
    · rw [hG, hJ] at h
      simp only [Bool.not_true, cond_false] at h
      by_cases hl : (es.length : Int) > 2000
      · rw [decide_eq_true hl] at h; cases h
      · rw [decide_eq_false hl, cond_false] at h
        have hz : ∀ i, i < es.length → codeN G J es es i = 0 := fun i hi => by
          cases hb : badS G J es with
          | none => have := findN_none hb i (Nat.zero_le _) hi; simpa using this
          | some q =>
            obtain ⟨_, _, h3, _⟩ := findN_some hb
            rw [hb] at h
            simp only [Option.isSome_some, cond_true, Option.getD_some] at h
            rw [h] at h3
            cases h3
        have hz' : ∀ i, i < es.length → okT G J (es.getD i .unk) ∧ ordN es (es.getD i .unk) i = false := fun i hi => by
          have h := hz i hi
          unfold codeN codeX codeB at h
          generalize es.getD i .unk = x at h
          cases h1 : nmB (xOf x) <;> cases h2 : inR (gOf x) 0 G <;> cases h3 : inR (jOf x) 0 J <;> cases h4 : (gOf x == 0 && jOf x == 0) <;> cases h5 : ordN es x i <;> simp [h1, h2, h3, h4, h5] at h ⊢
          refine ⟨h1, inR_spec h2, inR_spec h3, fun e1 e2 => ?_⟩
          rw [e1, e2] at h4
          cases h4
        obtain ⟨a1, a2⟩ := inR_spec hG
        obtain ⟨b1, b2⟩ := inR_spec hJ
        refine ⟨a1, a2, b1, b2, by omega, fun e he => ?_, srt_of_step bltO fun i hi => ?_⟩
        · obtain ⟨i, hi, rfl⟩ := List.getElem_of_mem he
          rw [← getD_eq hi]
          exact (hz' i hi).1
        · have := ord_lt (hz' (i + 1) hi).2 (by omega)
          rw [show i + 1 - 1 = i from rfl, getD_eq hi, getD_eq (by omega)] at this
          exact this
theorem Wd.zero {G J : Int} {es : List AV} (h : Wd G J es) : wordsF G J es = (0, 0) := by
  have hb : badS G J es = none := findN_of_none fun i _ hi => by
    have hm : es.getD i .unk ∈ es := by rw [getD_eq hi]; exact List.getElem_mem hi
    obtain ⟨h1, ⟨h2, h3⟩, ⟨h4, h5⟩, h6⟩ := h.all _ hm
    have ho : ordN es (es.getD i .unk) i = false := lt_ord fun h0 => by
      rw [getD_eq hi, getD_eq (by omega : i - 1 < es.length)]
      exact srt_get h.srt (by omega) hi (by omega)
    have hz : (gOf (es.getD i .unk) == 0 && jOf (es.getD i .unk) == 0) = false := by
      by_cases hg : gOf (es.getD i .unk) = 0
      · have := h6 hg
        rw [show (jOf (es.getD i .unk) == 0) = false from by simpa using this, Bool.and_false]
      · rw [show (gOf (es.getD i .unk) == 0) = false from by simpa using hg]; rfl
    have : codeN G J es es i = 0 := by
      unfold codeN codeX
      rw [h1, inR_of h2 h3, inR_of h4 h5, hz, ho]
      rfl
    rw [this]
    rfl
  unfold wordsF
  rw [hb, inR_of h.g0 h.g1, inR_of h.j0 h.j1, decide_eq_false (by have := h.len; omega)]
  rfl
theorem Tk.of {ts : List AV} (hl : ts.length ≤ 1000) (hb : badT ts = none) : Tk ts := by
  have hz : ∀ i, i < ts.length → nmB (xOf (ts.getD i .unk)) = true ∧ ordN ts (ts.getD i .unk) i = false := fun i hi => by
    have h := findN_none hb i (Nat.zero_le _) hi
    unfold codeT at h
    generalize ts.getD i .unk = x at h
    cases h1 : nmB (xOf x) <;> cases h2 : ordN ts x i <;> simp [h1, h2] at h ⊢
  refine ⟨hl, fun t ht => ?_, srt_of_step bltO fun i hi => ?_⟩
  · obtain ⟨i, hi, rfl⟩ := List.getElem_of_mem ht
    rw [← getD_eq hi]
    exact (hz i hi).1
  · have := ord_lt (hz (i + 1) hi).2 (by omega)
    rw [show i + 1 - 1 = i from rfl, getD_eq hi, getD_eq (by omega)] at this
    exact this
theorem Tk.zero {ts : List AV} (h : Tk ts) : badT ts = none := findN_of_none fun i _ hi => by
  have hm : ts.getD i .unk ∈ ts := by rw [getD_eq hi]; exact List.getElem_mem hi
  have ho : ordN ts (ts.getD i .unk) i = false := lt_ord fun h0 => by
    rw [getD_eq hi, getD_eq (by omega : i - 1 < ts.length)]
    exact srt_get h.srt (by omega) hi (by omega)
  unfold codeT
  rw [h.all _ hm, ho]
  rfl
theorem comm_ok {G J : Int} {es ts : List AV} (h : ((commF G J es ts).1 != 0) = false) : commF G J es ts = (0, 0) ∧ Wd G J es ∧ Tk ts := by
  have hz : (commF G J es ts).1 = 0 := by simpa using h
  unfold commF at hz ⊢
  cases hv : (wordsF G J es).1 != 0
  · rw [hv] at hz
    simp only [cond_false] at hz ⊢
    by_cases hl : (ts.length : Int) > 1000
    · rw [decide_eq_true hl] at hz; cases hz
    · rw [decide_eq_false hl, cond_false] at hz ⊢
      cases hb : badT ts with
      | none => exact ⟨rfl, Wd.of (by simpa using hv), Tk.of (by omega) hb⟩
      | some q =>
        rw [hb] at hz
        obtain ⟨_, _, h3, _⟩ := findN_some hb
        simp only [Option.isSome_some, cond_true, Option.getD_some] at hz
        rw [hz] at h3
        cases h3
  · rw [hv] at hz
    simp only [cond_true] at hz
    rw [hz] at hv
    cases hv
theorem comm_zero {G J : Int} {es ts : List AV} (h : Wd G J es) (h' : Tk ts) : commF G J es ts = (0, 0) := by
  unfold commF
  rw [h.zero, h'.zero, decide_eq_false (by have := h'.len; omega)]
  rfl
theorem Wd.inE {G J : Int} {es : List AV} (h : Wd G J es) : es.all (inE 1000000) = true := List.all_eq_true.2 fun e he => by
  obtain ⟨_, ⟨a1, a2⟩, ⟨b1, b2⟩, _⟩ := h.all e he
  have := h.g1
  have := h.j1
  unfold Go.Proofs.Ytpgaobdgohlegaa.inE
  rw [inR_of a1 (by omega), inR_of b1 (by omega)]
  rfl
def cntW (junk : Bool) (G J : Int) : Int := bif junk then J else G
def lrnF (G J : Int) (es ts : List AV) (junk : Bool) : Int × Int := bif (commF G J es ts).1 != 0 then commF G J es ts else bif cntW junk G J == 1000000 then (8, -4) else bif decide (((learnF junk es ts).length : Int) > 2000) then (2, -1) else (0, 0)
def lrnW (G J : Int) (es ts : List AV) (junk : Bool) : AV := bif (lrnF G J es ts junk).1 != 0 then wd 0 0 [] else wd (bif junk then G else G + 1) (bif junk then J + 1 else J) (learnF junk es ts)
def F12 : List AV → Tr AV
  | [.agg [.int .i64 G, .int .i64 J, .slv (.agg [.str, .int .i64, .int .i64]) es], .slv .str ts, .bool junk] => .gd (small es.length && small ts.length) (.leaf (.tup [lrnW G J es ts junk, fault (lrnF G J es ts junk)]))
  | _ => .no
theorem ok12 : SumOK Try.prog 12 (ofT F12) ∧ SNat (ofT F12) := by
  refine fn1 (K := [(10, l12)]) (b := b12) (l := l12) g12 Try.func12 (by kernel_rfl) (by kernel_rfl) loop12 fun ρ avs k r h => ?_
  unfold F12 at h
  split at h
  · rename_i G J es ts junk
    obtain ⟨hc, hk⟩ := gd_some h
    simp only [Bool.and_eq_true] at hc
    refine Eq.trans (b := bif small es.length && small ts.length then bif (commF G J es ts).fst != (0 : Int) then k (AV.tup [AV.agg [AV.int IntKind.i64 (0 : Int), AV.int IntKind.i64 (0 : Int), AV.slv (Sh.agg [Sh.str, Sh.int IntKind.i64, Sh.int IntKind.i64]) []], AV.agg [AV.int IntKind.i64 (commF G J es ts).fst, AV.int IntKind.i64 (commF G J es ts).snd]]) else bif junk then bif J == (1000000 : Int) then k (AV.tup [AV.agg [AV.int IntKind.i64 (0 : Int), AV.int IntKind.i64 (0 : Int), AV.slv (Sh.agg [Sh.str, Sh.int IntKind.i64, Sh.int IntKind.i64]) []], AV.agg [AV.int IntKind.i64 (8 : Int), AV.int IntKind.i64 (-4 : Int)]]) else bif decide (es.length ≤ (1000000 : Nat)) then bif decide ((↑ts.length : Int) = (↑ts.length : Int) ∧ (0 : Int) ≤ (0 : Int) ∧ (0 : Int) ≤ (↑ts.length : Int) ∧ (↑ts.length : Int) ≤ (1000 : Int) ∧ (↑es.length : Int) ≤ (2000 : Int) + (0 : Int)) && es.all (inE ((1000000 : Int) + (0 : Int))) then bif decide ((↑(learnF junk es (List.drop (0 : Nat) ts)).length : Int) > (2000 : Int)) then k (AV.tup [AV.agg [AV.int IntKind.i64 (0 : Int), AV.int IntKind.i64 (0 : Int), AV.slv (Sh.agg [Sh.str, Sh.int IntKind.i64, Sh.int IntKind.i64]) []], AV.agg [AV.int IntKind.i64 (2 : Int), AV.int IntKind.i64 (-1 : Int)]]) else k (AV.tup [AV.agg [AV.int IntKind.i64 G, AV.int IntKind.i64 (IntKind.i64.wrap (J + (1 : Int))), AV.slv (Sh.agg [Sh.str, Sh.int IntKind.i64, Sh.int IntKind.i64]) (learnF junk es (List.drop (0 : Nat) ts))], AV.agg [AV.int IntKind.i64 (0 : Int), AV.int IntKind.i64 (0 : Int)]]) else none else none else bif G == (1000000 : Int) then k (AV.tup [AV.agg [AV.int IntKind.i64 (0 : Int), AV.int IntKind.i64 (0 : Int), AV.slv (Sh.agg [Sh.str, Sh.int IntKind.i64, Sh.int IntKind.i64]) []], AV.agg [AV.int IntKind.i64 (8 : Int), AV.int IntKind.i64 (-4 : Int)]]) else bif decide (es.length ≤ (1000000 : Nat)) then bif decide ((↑ts.length : Int) = (↑ts.length : Int) ∧ (0 : Int) ≤ (0 : Int) ∧ (0 : Int) ≤ (↑ts.length : Int) ∧ (↑ts.length : Int) ≤ (1000 : Int) ∧ (↑es.length : Int) ≤ (2000 : Int) + (0 : Int)) && es.all (inE ((1000000 : Int) + (0 : Int))) then bif decide ((↑(learnF junk es (List.drop (0 : Nat) ts)).length : Int) > (2000 : Int)) then k (AV.tup [AV.agg [AV.int IntKind.i64 (0 : Int), AV.int IntKind.i64 (0 : Int), AV.slv (Sh.agg [Sh.str, Sh.int IntKind.i64, Sh.int IntKind.i64]) []], AV.agg [AV.int IntKind.i64 (2 : Int), AV.int IntKind.i64 (-1 : Int)]]) else k (AV.tup [AV.agg [AV.int IntKind.i64 (IntKind.i64.wrap (G + (1 : Int))), AV.int IntKind.i64 J, AV.slv (Sh.agg [Sh.str, Sh.int IntKind.i64, Sh.int IntKind.i64]) (learnF junk es (List.drop (0 : Nat) ts))], AV.agg [AV.int IntKind.i64 (0 : Int), AV.int IntKind.i64 (0 : Int)]]) else none else none else none) (by kernel_rfl) ?_
    rw [← hk, hc.1, hc.2]
    show _ = k (.tup [lrnW G J es ts junk, fault (lrnF G J es ts junk)])
    unfold lrnW lrnF
    cases hv : (commF G J es ts).1 != 0
    · obtain ⟨hz, W, T⟩ := comm_ok hv
      have w1 := W.len
      have t1 := T.len
      have := W.g0
      have := W.g1
      have := W.j0
      have := W.j1
      have hall : es.all (inE (1000000 + 0)) = true := W.inE
      rw [wrap_mid (J + 1) (by omega) (by omega), wrap_mid (G + 1) (by omega) (by omega), hall, List.drop_zero]
      have gd : (decide ((ts.length : Int) = (ts.length : Int) ∧ (0 : Int) ≤ 0 ∧ (0 : Int) ≤ (ts.length : Int) ∧ (ts.length : Int) ≤ 1000 ∧ (es.length : Int) ≤ 2000 + 0) && true) = true := and_t (decide_eq_true ⟨rfl, by omega, by omega, by omega, by omega⟩) rfl
      rw [gd, decide_eq_true (by omega : es.length ≤ 1000000)]
      unfold cntW
      cases junk
      · dsimp only [cond_true, cond_false]
        cases G == 1000000
        · cases decide (((learnF false es ts).length : Int) > 2000) <;> rfl
        · rfl
      · dsimp only [cond_true, cond_false]
        cases J == 1000000
        · cases decide (((learnF true es ts).length : Int) > 2000) <;> rfl
        · rfl
    · simp only [cond_true, hv]
      rfl
  · cases h
end Go.Proofs.Ytpgaobdgohlegaa
