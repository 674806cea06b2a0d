/-
  Greylists: what an attempt is held against (Tried).
-/
import Derived.Test.YtbkokbmodpkamaaGyC
namespace Go.Proofs.Ytbkokbmodpkamaa
open Go.Ev

noncomputable def G8 : Env := { G9 with pure := (30, ofT F30) :: (14, ofT F14) :: (10, ofT F9) :: G9.pure }
theorem g8 : GOK Try.prog G8 := GOK.also (GOK.also (GOK.also g9 ok10) ok14) ok30
/-! where it is -/
noncomputable def b8a : Code := ((Try.f8.body.map loopsOf).getD []).headD .skip
def isN (x : K3) (es : List AV) (i : Nat) : Bool := k3eq (kOf (es.getD i .unk)) x
def lastN (p : Nat → Bool) : Nat → Nat → Int → Int
  | 0, _, z => z
  | n + 1, i, z => lastN p n (i + 1) (bif p i then (i : Int) else z)
theorem lastN_succ (p : Nat → Bool) (n i : Nat) (z : Int) : lastN p (n + 1) i z = lastN p n (i + 1) (bif p i then (i : Int) else z) := rfl
def L8a : List AV → List (Option Row) → Tr LOut
  | [.slv (.agg [.str, .str, .str, .int .i64, .int .i64, .bool]) es, .int .i64 now, .ptr 2 0, .ptr 262 0, .int .i64 z, .int .i64 i], [some (.box false [.int .i64 c1, .int .i64 c2]), some (.box false [.str hh, .str f, .str t, .int .i64 a, .int .i64 l, .bool kn])] =>
    .gd (cnt es.length i es.length) (.leaf (.exit 0, [.slv sE es, .int .i64 now, .ptr 2 0, .ptr 262 0, .int .i64 (lastN (isN (hh, f, t) es) (es.length - i.toNat) i.toNat z), .int .i64 es.length], [some (.box false [.int .i64 c1, .int .i64 c2]), some (.box false [.str hh, .str f, .str t, .int .i64 a, .int .i64 l, .bool kn])]))
  | _, _ => .no
def l8a : Ev.Loop := ⟨{ len := 152, slots := [0, 4, 12, 14, 15, 16], rows := [2, 262] }, ofL L8a⟩
def μ8a (vs : List AV) (_ : List (Option Row)) : Nat := match vs with
  | [.slv _ es, _, _, _, _, .int _ i] => ((es.length : Int) - i).toNat
  | _ => 0
/-! the list after it -/
noncomputable def b8b : Code := ((Try.f8.body.map loopsOf).getD []).tail.headD .skip
def oldG (now : Int) (e : AV) : Bool := oldR (aOf e) (lOf e) (knOf e) now
def gI (x : AV) (now : Int) : Bool → List AV → Bool × List AV × Int
  | done, [] => (done, [], 0)
  | done, e :: r =>
    bif oldG now e then gI x now done r else
    bif !done && k3lt (kOf x) (kOf e) then ((gI x now true r).1, x :: eE e :: (gI x now true r).2.1, (gI x now true r).2.2 + 1)
    else ((gI x now done r).1, eE e :: (gI x now done r).2.1, (gI x now done r).2.2 + 1)
theorem gI_cons (x : AV) (now : Int) (done : Bool) (e : AV) (r : List AV) : gI x now done (e :: r) = bif oldG now e then gI x now done r else
    bif !done && k3lt (kOf x) (kOf e) then ((gI x now true r).1, x :: eE e :: (gI x now true r).2.1, (gI x now true r).2.2 + 1)
    else ((gI x now done r).1, eE e :: (gI x now done r).2.1, (gI x now done r).2.2 + 1) := rfl
theorem gI_cnt (x : AV) (now : Int) : ∀ (es : List AV) (d : Bool), 0 ≤ (gI x now d es).2.2 ∧ (gI x now d es).2.2 ≤ es.length ∧ (gI x now d es).2.1.length ≤ 2 * es.length
  | [], d => by simp [gI]
  | e :: r, d => by
    have h1 := gI_cnt x now r true
    have h2 := gI_cnt x now r d
    rw [gI_cons]
    cases oldG now e
    · cases (!d && k3lt (kOf x) (kOf e))
      · simp only [cond_false, List.length_cons]; omega
      · simp only [cond_true, cond_false, List.length_cons]; omega
    · simp only [cond_true, List.length_cons]; omega
def L8b : List AV → List (Option Row) → Tr LOut
  | [.slv (.agg [.str, .str, .str, .int .i64, .int .i64, .bool]) es, .int .i64 now, .ptr 2 0, .ptr 262 0, .own 900, .bool done, .int .i64 many, .int .i64 i], [some (.box false [.int .i64 c1, .int .i64 c2]), some (.box false [.str hh, .str f, .str t, .int .i64 a, .int .i64 l, .bool kn]), some (.arr false (.agg [.str, .str, .str, .int .i64, .int .i64, .bool]) 33 out none)] =>
    .gd (decide (0 ≤ i ∧ i ≤ es.length ∧ es.length ≤ 1000 ∧ out.length ≤ 2 * i ∧ 0 ≤ many ∧ many ≤ i)) (.leaf (.exit 2, [.slv sE es, .int .i64 now, .ptr 2 0, .ptr 262 0, .own 900, .bool (gI (xE hh f t a l kn) now done (es.drop i.toNat)).1, .int .i64 (many + (gI (xE hh f t a l kn) now done (es.drop i.toNat)).2.2), .int .i64 es.length],
      [some (.box false [.int .i64 c1, .int .i64 c2]), some (.box false [.str hh, .str f, .str t, .int .i64 a, .int .i64 l, .bool kn]), some (.arr false sE 33 (out ++ (gI (xE hh f t a l kn) now done (es.drop i.toNat)).2.1) none)]))
  | _, _ => .no
def l8b : Ev.Loop := ⟨{ len := 152, slots := [0, 4, 12, 14, 18, 19, 20, 21], rows := [2, 262, 900], homes := [(18, 900, 33)] }, ofL L8b⟩
def μ8b (vs : List AV) (_ : List (Option Row)) : Nat := match vs with
  | [.slv _ es, _, _, _, _, _, _, .int _ i] => ((es.length : Int) - i).toNat
  | _ => 0
theorem loop8a : LoopOK Try.prog G8 [(11, l8a), (27, l8b)] b8a l8a := by
  refine loopT g8.natOK rfl (KOK.nil (by kernel_rfl)) μ8a (fun ρ vs rs k r h => ?_)
  unfold L8a at h
  split at h
  · rename_i es now z i c1 c2 hh f t a l kn
    obtain ⟨hc, hk⟩ := gd_some h
    obtain ⟨_, hs, j, rfl, hj⟩ := cnt_spec hc
    rw [Int.toNat_natCast] at hk
    refine Eq.trans (b := bif decide ((↑j : Int) < (↑es.length : Int)) then bif inb (↑j : Int) es.length then bif k3eq ((hOf (es.getD j AV.unk)), (fOf (es.getD j AV.unk)), (tOf (es.getD j AV.unk))) (hh, f, t) then bif decide (((↑es.length : Int) - IntKind.i64.wrap ((↑j : Int) + (1 : Int))).toNat < ((↑es.length : Int) - (↑j : Int)).toNat) then bif cnt (↑es.length : Int) (IntKind.i64.wrap ((↑j : Int) + (1 : Int))) es.length then k (Ex.exit (0 : Nat)) [AV.slv (Sh.agg [Sh.str, Sh.str, Sh.str, Sh.int IntKind.i64, Sh.int IntKind.i64, Sh.bool]) es, AV.int IntKind.i64 now, AV.ptr (2 : Nat) (0 : Nat), AV.ptr (262 : Nat) (0 : Nat), AV.int IntKind.i64 (lastN (isN (hh, f, t) es) (es.length - (IntKind.i64.wrap ((↑j : Int) + (1 : Int))).toNat) (IntKind.i64.wrap ((↑j : Int) + (1 : Int))).toNat (↑j : Int)), AV.int IntKind.i64 (↑es.length : Int)] [some (Row.box false [AV.int IntKind.i64 c1, AV.int IntKind.i64 c2]), some (Row.box false [AV.str hh, AV.str f, AV.str t, AV.int IntKind.i64 a, AV.int IntKind.i64 l, AV.bool kn])] else none else none else bif decide (((↑es.length : Int) - IntKind.i64.wrap ((↑j : Int) + (1 : Int))).toNat < ((↑es.length : Int) - (↑j : Int)).toNat) then bif cnt (↑es.length : Int) (IntKind.i64.wrap ((↑j : Int) + (1 : Int))) es.length then k (Ex.exit (0 : Nat)) [AV.slv (Sh.agg [Sh.str, Sh.str, Sh.str, Sh.int IntKind.i64, Sh.int IntKind.i64, Sh.bool]) es, AV.int IntKind.i64 now, AV.ptr (2 : Nat) (0 : Nat), AV.ptr (262 : Nat) (0 : Nat), AV.int IntKind.i64 (lastN (isN (hh, f, t) es) (es.length - (IntKind.i64.wrap ((↑j : Int) + (1 : Int))).toNat) (IntKind.i64.wrap ((↑j : Int) + (1 : Int))).toNat z), AV.int IntKind.i64 (↑es.length : Int)] [some (Row.box false [AV.int IntKind.i64 c1, AV.int IntKind.i64 c2]), some (Row.box false [AV.str hh, AV.str f, AV.str t, AV.int IntKind.i64 a, AV.int IntKind.i64 l, AV.bool kn])] else none else none else none else k (Ex.exit (0 : Nat)) [AV.slv (Sh.agg [Sh.str, Sh.str, Sh.str, Sh.int IntKind.i64, Sh.int IntKind.i64, Sh.bool]) es, AV.int IntKind.i64 now, AV.ptr (2 : Nat) (0 : Nat), AV.ptr (262 : Nat) (0 : Nat), AV.int IntKind.i64 z, AV.int IntKind.i64 (↑j : Int)] [some (Row.box false [AV.int IntKind.i64 c1, AV.int IntKind.i64 c2]), some (Row.box false [AV.str hh, AV.str f, AV.str t, AV.int IntKind.i64 a, AV.int IntKind.i64 l, AV.bool kn])]) (by kernel_rfl) ?_
    rw [← hk]
    by_cases hlt : j < es.length
    · obtain ⟨e1, e2, e3, e4, e5⟩ := cnt_facts hlt hs
      have hd := lastN_succ (isN (hh, f, t) es) (es.length - (j + 1)) j z
      rw [show es.length - (j + 1) + 1 = es.length - j from by omega] at hd
      rw [hd]
      simp only [e1, e2, e3, e4, e5, cond_true, Int.toNat_natCast]
      show (bif isN (hh, f, t) es j then _ else _) = _
      cases isN (hh, f, t) es j <;> rfl
    · obtain rfl : j = es.length := by omega
      rw [decide_eq_false (by omega), show es.length - es.length = 0 from by omega]
      rfl
  · cases h
theorem loop8b : LoopOK Try.prog G8 [(11, l8a), (27, l8b)] b8b l8b := by
  refine loopT g8.natOK rfl (KOK.nil (by kernel_rfl)) μ8b (fun ρ vs rs k r h => ?_)
  unfold L8b at h
  split at h
  · rename_i es now done many i' c1 c2 hh f t a l kn out
    obtain ⟨hc, hk⟩ := gd_some h
    obtain ⟨d1, d2, d3, d4, d5, d6⟩ := of_decide_eq_true hc
    obtain ⟨i, rfl⟩ : ∃ i : Nat, i' = i := ⟨i'.toNat, by omega⟩
    rw [Int.toNat_natCast] at hk
    refine Eq.trans (b := bif decide ((↑i : Int) < (↑es.length : Int)) then bif inb (↑i : Int) es.length then bif oldR (aOf (es.getD i AV.unk)) (lOf (es.getD i AV.unk)) (knOf (es.getD i AV.unk)) now then bif decide (((↑es.length : Int) - IntKind.i64.wrap ((↑i : Int) + (1 : Int))).toNat < ((↑es.length : Int) - (↑i : Int)).toNat) then bif decide ((0 : Int) ≤ IntKind.i64.wrap ((↑i : Int) + (1 : Int)) ∧ IntKind.i64.wrap ((↑i : Int) + (1 : Int)) ≤ (↑es.length : Int) ∧ es.length ≤ (1000 : Nat) ∧ (↑out.length : Int) ≤ (2 : Int) * IntKind.i64.wrap ((↑i : Int) + (1 : Int)) ∧ (0 : Int) ≤ many ∧ many ≤ IntKind.i64.wrap ((↑i : Int) + (1 : Int))) then k (Ex.exit (2 : Nat)) [AV.slv (Sh.agg [Sh.str, Sh.str, Sh.str, Sh.int IntKind.i64, Sh.int IntKind.i64, Sh.bool]) es, AV.int IntKind.i64 now, AV.ptr (2 : Nat) (0 : Nat), AV.ptr (262 : Nat) (0 : Nat), AV.own (900 : Nat), AV.bool (gI (xE hh f t a l kn) now done (List.drop (IntKind.i64.wrap ((↑i : Int) + (1 : Int))).toNat es)).fst, AV.int IntKind.i64 (many + (gI (xE hh f t a l kn) now done (List.drop (IntKind.i64.wrap ((↑i : Int) + (1 : Int))).toNat es)).snd.snd), AV.int IntKind.i64 (↑es.length : Int)] [some (Row.box false [AV.int IntKind.i64 c1, AV.int IntKind.i64 c2]), some (Row.box false [AV.str hh, AV.str f, AV.str t, AV.int IntKind.i64 a, AV.int IntKind.i64 l, AV.bool kn]), some (Row.arr false (Sh.agg [Sh.str, Sh.str, Sh.str, Sh.int IntKind.i64, Sh.int IntKind.i64, Sh.bool]) (33 : Nat) (out ++ (gI (xE hh f t a l kn) now done (List.drop (IntKind.i64.wrap ((↑i : Int) + (1 : Int))).toNat es)).snd.fst) none)] else none else none else bif !done then bif inb (↑i : Int) es.length then bif k3lt (hh, f, t) ((hOf (es.getD i AV.unk)), (fOf (es.getD i AV.unk)), (tOf (es.getD i AV.unk))) then bif roomB (out.length + [AV.agg [AV.str hh, AV.str f, AV.str t, AV.int IntKind.i64 a, AV.int IntKind.i64 l, AV.bool kn]].length) (Try.prog.bytesOf (33 : Nat)) then bif inb (↑i : Int) es.length then bif roomB ((out ++ [AV.agg [AV.str hh, AV.str f, AV.str t, AV.int IntKind.i64 a, AV.int IntKind.i64 l, AV.bool kn]]).length + [AV.agg [AV.str (hOf (es.getD i AV.unk)), AV.str (fOf (es.getD i AV.unk)), AV.str (tOf (es.getD i AV.unk)), AV.int IntKind.i64 (aOf (es.getD i AV.unk)), AV.int IntKind.i64 (lOf (es.getD i AV.unk)), AV.bool (knOf (es.getD i AV.unk))]].length) (Try.prog.bytesOf (33 : Nat)) then bif decide (((↑es.length : Int) - IntKind.i64.wrap ((↑i : Int) + (1 : Int))).toNat < ((↑es.length : Int) - (↑i : Int)).toNat) then bif decide ((0 : Int) ≤ IntKind.i64.wrap ((↑i : Int) + (1 : Int)) ∧ IntKind.i64.wrap ((↑i : Int) + (1 : Int)) ≤ (↑es.length : Int) ∧ es.length ≤ (1000 : Nat) ∧ (↑(out ++ [AV.agg [AV.str hh, AV.str f, AV.str t, AV.int IntKind.i64 a, AV.int IntKind.i64 l, AV.bool kn]] ++ [AV.agg [AV.str (hOf (es.getD i AV.unk)), AV.str (fOf (es.getD i AV.unk)), AV.str (tOf (es.getD i AV.unk)), AV.int IntKind.i64 (aOf (es.getD i AV.unk)), AV.int IntKind.i64 (lOf (es.getD i AV.unk)), AV.bool (knOf (es.getD i AV.unk))]]).length : Int) ≤ (2 : Int) * IntKind.i64.wrap ((↑i : Int) + (1 : Int)) ∧ (0 : Int) ≤ IntKind.i64.wrap (many + (1 : Int)) ∧ IntKind.i64.wrap (many + (1 : Int)) ≤ IntKind.i64.wrap ((↑i : Int) + (1 : Int))) then k (Ex.exit (2 : Nat)) [AV.slv (Sh.agg [Sh.str, Sh.str, Sh.str, Sh.int IntKind.i64, Sh.int IntKind.i64, Sh.bool]) es, AV.int IntKind.i64 now, AV.ptr (2 : Nat) (0 : Nat), AV.ptr (262 : Nat) (0 : Nat), AV.own (900 : Nat), AV.bool (gI (xE hh f t a l kn) now true (List.drop (IntKind.i64.wrap ((↑i : Int) + (1 : Int))).toNat es)).fst, AV.int IntKind.i64 (IntKind.i64.wrap (many + (1 : Int)) + (gI (xE hh f t a l kn) now true (List.drop (IntKind.i64.wrap ((↑i : Int) + (1 : Int))).toNat es)).snd.snd), AV.int IntKind.i64 (↑es.length : Int)] [some (Row.box false [AV.int IntKind.i64 c1, AV.int IntKind.i64 c2]), some (Row.box false [AV.str hh, AV.str f, AV.str t, AV.int IntKind.i64 a, AV.int IntKind.i64 l, AV.bool kn]), some (Row.arr false (Sh.agg [Sh.str, Sh.str, Sh.str, Sh.int IntKind.i64, Sh.int IntKind.i64, Sh.bool]) (33 : Nat) (out ++ [AV.agg [AV.str hh, AV.str f, AV.str t, AV.int IntKind.i64 a, AV.int IntKind.i64 l, AV.bool kn]] ++ [AV.agg [AV.str (hOf (es.getD i AV.unk)), AV.str (fOf (es.getD i AV.unk)), AV.str (tOf (es.getD i AV.unk)), AV.int IntKind.i64 (aOf (es.getD i AV.unk)), AV.int IntKind.i64 (lOf (es.getD i AV.unk)), AV.bool (knOf (es.getD i AV.unk))]] ++ (gI (xE hh f t a l kn) now true (List.drop (IntKind.i64.wrap ((↑i : Int) + (1 : Int))).toNat es)).snd.fst) none)] else none else none else none else none else none else bif inb (↑i : Int) es.length then bif roomB (out.length + [AV.agg [AV.str (hOf (es.getD i AV.unk)), AV.str (fOf (es.getD i AV.unk)), AV.str (tOf (es.getD i AV.unk)), AV.int IntKind.i64 (aOf (es.getD i AV.unk)), AV.int IntKind.i64 (lOf (es.getD i AV.unk)), AV.bool (knOf (es.getD i AV.unk))]].length) (Try.prog.bytesOf (33 : Nat)) then bif decide (((↑es.length : Int) - IntKind.i64.wrap ((↑i : Int) + (1 : Int))).toNat < ((↑es.length : Int) - (↑i : Int)).toNat) then bif decide ((0 : Int) ≤ IntKind.i64.wrap ((↑i : Int) + (1 : Int)) ∧ IntKind.i64.wrap ((↑i : Int) + (1 : Int)) ≤ (↑es.length : Int) ∧ es.length ≤ (1000 : Nat) ∧ (↑(out ++ [AV.agg [AV.str (hOf (es.getD i AV.unk)), AV.str (fOf (es.getD i AV.unk)), AV.str (tOf (es.getD i AV.unk)), AV.int IntKind.i64 (aOf (es.getD i AV.unk)), AV.int IntKind.i64 (lOf (es.getD i AV.unk)), AV.bool (knOf (es.getD i AV.unk))]]).length : Int) ≤ (2 : Int) * IntKind.i64.wrap ((↑i : Int) + (1 : Int)) ∧ (0 : Int) ≤ IntKind.i64.wrap (many + (1 : Int)) ∧ IntKind.i64.wrap (many + (1 : Int)) ≤ IntKind.i64.wrap ((↑i : Int) + (1 : Int))) then k (Ex.exit (2 : Nat)) [AV.slv (Sh.agg [Sh.str, Sh.str, Sh.str, Sh.int IntKind.i64, Sh.int IntKind.i64, Sh.bool]) es, AV.int IntKind.i64 now, AV.ptr (2 : Nat) (0 : Nat), AV.ptr (262 : Nat) (0 : Nat), AV.own (900 : Nat), AV.bool (gI (xE hh f t a l kn) now done (List.drop (IntKind.i64.wrap ((↑i : Int) + (1 : Int))).toNat es)).fst, AV.int IntKind.i64 (IntKind.i64.wrap (many + (1 : Int)) + (gI (xE hh f t a l kn) now done (List.drop (IntKind.i64.wrap ((↑i : Int) + (1 : Int))).toNat es)).snd.snd), AV.int IntKind.i64 (↑es.length : Int)] [some (Row.box false [AV.int IntKind.i64 c1, AV.int IntKind.i64 c2]), some (Row.box false [AV.str hh, AV.str f, AV.str t, AV.int IntKind.i64 a, AV.int IntKind.i64 l, AV.bool kn]), some (Row.arr false (Sh.agg [Sh.str, Sh.str, Sh.str, Sh.int IntKind.i64, Sh.int IntKind.i64, Sh.bool]) (33 : Nat) (out ++ [AV.agg [AV.str (hOf (es.getD i AV.unk)), AV.str (fOf (es.getD i AV.unk)), AV.str (tOf (es.getD i AV.unk)), AV.int IntKind.i64 (aOf (es.getD i AV.unk)), AV.int IntKind.i64 (lOf (es.getD i AV.unk)), AV.bool (knOf (es.getD i AV.unk))]] ++ (gI (xE hh f t a l kn) now done (List.drop (IntKind.i64.wrap ((↑i : Int) + (1 : Int))).toNat es)).snd.fst) none)] else none else none else none else none else none else bif inb (↑i : Int) es.length then bif roomB (out.length + [AV.agg [AV.str (hOf (es.getD i AV.unk)), AV.str (fOf (es.getD i AV.unk)), AV.str (tOf (es.getD i AV.unk)), AV.int IntKind.i64 (aOf (es.getD i AV.unk)), AV.int IntKind.i64 (lOf (es.getD i AV.unk)), AV.bool (knOf (es.getD i AV.unk))]].length) (Try.prog.bytesOf (33 : Nat)) then bif decide (((↑es.length : Int) - IntKind.i64.wrap ((↑i : Int) + (1 : Int))).toNat < ((↑es.length : Int) - (↑i : Int)).toNat) then bif decide ((0 : Int) ≤ IntKind.i64.wrap ((↑i : Int) + (1 : Int)) ∧ IntKind.i64.wrap ((↑i : Int) + (1 : Int)) ≤ (↑es.length : Int) ∧ es.length ≤ (1000 : Nat) ∧ (↑(out ++ [AV.agg [AV.str (hOf (es.getD i AV.unk)), AV.str (fOf (es.getD i AV.unk)), AV.str (tOf (es.getD i AV.unk)), AV.int IntKind.i64 (aOf (es.getD i AV.unk)), AV.int IntKind.i64 (lOf (es.getD i AV.unk)), AV.bool (knOf (es.getD i AV.unk))]]).length : Int) ≤ (2 : Int) * IntKind.i64.wrap ((↑i : Int) + (1 : Int)) ∧ (0 : Int) ≤ IntKind.i64.wrap (many + (1 : Int)) ∧ IntKind.i64.wrap (many + (1 : Int)) ≤ IntKind.i64.wrap ((↑i : Int) + (1 : Int))) then k (Ex.exit (2 : Nat)) [AV.slv (Sh.agg [Sh.str, Sh.str, Sh.str, Sh.int IntKind.i64, Sh.int IntKind.i64, Sh.bool]) es, AV.int IntKind.i64 now, AV.ptr (2 : Nat) (0 : Nat), AV.ptr (262 : Nat) (0 : Nat), AV.own (900 : Nat), AV.bool (gI (xE hh f t a l kn) now done (List.drop (IntKind.i64.wrap ((↑i : Int) + (1 : Int))).toNat es)).fst, AV.int IntKind.i64 (IntKind.i64.wrap (many + (1 : Int)) + (gI (xE hh f t a l kn) now done (List.drop (IntKind.i64.wrap ((↑i : Int) + (1 : Int))).toNat es)).snd.snd), AV.int IntKind.i64 (↑es.length : Int)] [some (Row.box false [AV.int IntKind.i64 c1, AV.int IntKind.i64 c2]), some (Row.box false [AV.str hh, AV.str f, AV.str t, AV.int IntKind.i64 a, AV.int IntKind.i64 l, AV.bool kn]), some (Row.arr false (Sh.agg [Sh.str, Sh.str, Sh.str, Sh.int IntKind.i64, Sh.int IntKind.i64, Sh.bool]) (33 : Nat) (out ++ [AV.agg [AV.str (hOf (es.getD i AV.unk)), AV.str (fOf (es.getD i AV.unk)), AV.str (tOf (es.getD i AV.unk)), AV.int IntKind.i64 (aOf (es.getD i AV.unk)), AV.int IntKind.i64 (lOf (es.getD i AV.unk)), AV.bool (knOf (es.getD i AV.unk))]] ++ (gI (xE hh f t a l kn) now done (List.drop (IntKind.i64.wrap ((↑i : Int) + (1 : Int))).toNat es)).snd.fst) none)] else none else none else none else none else none else k (Ex.exit (2 : Nat)) [AV.slv (Sh.agg [Sh.str, Sh.str, Sh.str, Sh.int IntKind.i64, Sh.int IntKind.i64, Sh.bool]) es, AV.int IntKind.i64 now, AV.ptr (2 : Nat) (0 : Nat), AV.ptr (262 : Nat) (0 : Nat), AV.own (900 : Nat), AV.bool done, AV.int IntKind.i64 many, AV.int IntKind.i64 (↑i : Int)] [some (Row.box false [AV.int IntKind.i64 c1, AV.int IntKind.i64 c2]), some (Row.box false [AV.str hh, AV.str f, AV.str t, AV.int IntKind.i64 a, AV.int IntKind.i64 l, AV.bool kn]), some (Row.arr false (Sh.agg [Sh.str, Sh.str, Sh.str, Sh.int IntKind.i64, Sh.int IntKind.i64, Sh.bool]) (33 : Nat) out none)]) (by kernel_rfl) ?_
    rw [← hk]
    by_cases hlt : i < es.length
    · have e1 : IntKind.i64.wrap ((i : Int) + 1) = ((i + 1 : Nat) : Int) := by rw [wrap_mid _ (by omega) (by omega)]; omega
      have e2 : IntKind.i64.wrap (many + 1) = many + 1 := wrap_mid _ (by omega) (by omega)
      rw [drop_getD hlt, gI_cons, e1, e2]
      refine Eq.trans (cond_t (decide_eq_true (by omega))) ?_
      have hb : inb (i : Int) es.length = true := inb_true (by omega) (by omega)
      rw [hb]
      show (bif oldG now (es.getD i .unk) then _ else _) = _
      cases oldG now (es.getD i .unk)
      · cases done
        · show (bif k3lt (hh, f, t) (kOf (es.getD i .unk)) then _ else _) = _
          rw [show kOf (xE hh f t a l kn) = (hh, f, t) from rfl]
          cases k3lt (hh, f, t) (kOf (es.getD i .unk)) <;> simp only [cond_true, cond_false, Bool.not_true, Bool.not_false, Bool.true_and]
          all_goals repeat refine Eq.trans (cond_t (by first | exact roomB_small (by simp only [List.length_append, List.length_cons, List.length_nil]; omega) byE | exact decide_eq_true (by first | omega | (simp only [List.length_append, List.length_cons, List.length_nil]; omega)) | exact inb_true (by omega) (by omega))) ?_
          all_goals simp only [List.append_assoc, List.cons_append, List.nil_append, Int.toNat_natCast, Int.add_assoc, Int.add_comm 1]
          all_goals rfl
        · simp only [cond_true, cond_false, Bool.not_true, Bool.not_false, Bool.false_and]
          all_goals repeat refine Eq.trans (cond_t (by first | exact roomB_small (by simp only [List.length_append, List.length_cons, List.length_nil]; omega) byE | exact decide_eq_true (by first | omega | (simp only [List.length_append, List.length_cons, List.length_nil]; omega)) | exact inb_true (by omega) (by omega))) ?_
          all_goals simp only [List.append_assoc, List.cons_append, List.nil_append, Int.toNat_natCast, Int.add_assoc, Int.add_comm 1]
          all_goals rfl
      · simp only [cond_true, cond_false]
        all_goals repeat refine Eq.trans (cond_t (by first | exact roomB_small (by simp only [List.length_append, List.length_cons, List.length_nil]; omega) byE | exact decide_eq_true (by first | omega | (simp only [List.length_append, List.length_cons, List.length_nil]; omega)) | exact inb_true (by omega) (by omega))) ?_
        all_goals rfl
    · obtain rfl : i = es.length := by omega
      rw [decide_eq_false (by omega), List.drop_length]
      show _ = k (.exit 2) [.slv sE es, .int .i64 now, .ptr 2 0, .ptr 262 0, .own 900, .bool done, .int .i64 (many + 0), .int .i64 es.length] [some (.box false [.int .i64 c1, .int .i64 c2]), some (.box false [.str hh, .str f, .str t, .int .i64 a, .int .i64 l, .bool kn]), some (.arr false sE 33 (out ++ []) none)]
      rw [List.append_nil, Int.add_zero]
      rfl
  · cases h
end Go.Proofs.Ytbkokbmodpkamaa
