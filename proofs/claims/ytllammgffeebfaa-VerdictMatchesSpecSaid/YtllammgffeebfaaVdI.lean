/-
  The points of the five aspects, as the reference reckons them.
-/
import Derived.Test.YtllammgffeebfaaVdH
namespace Go.Proofs.Ytllammgffeebfaa
open Go.Ev

/-- The points of the signatures, one after the other. -/
def sgF : Nat → List AV → Nat → Int → Int
  | 0, _, _, b => b
  | n + 1, es, i, b => sgF n es (i + 1) (bif resOf (es.getD i .unk) == 2 && (bif resOf (es.getD i .unk) == 1 then -30 else b) == 0 then 20 else (bif resOf (es.getD i .unk) == 1 then -30 else b))
noncomputable def b12_1 : Code := ((Try.f12.body.map loopsOf).getD []).getD 0 .skip
def L12_1 : LSumm := fun _ vs rs x => match vs, rs with
  | [.ptr 0 0, .own 69, .int .i64 k], [some (.box false [.int .i64 h, .slv (.agg [.str, .int .i64]) ws, .int .i64 c, .int .i64 rp, .int .i64 j, .bool g, .bool t]), some (.arr false (.int .i64) 3 [.int .i64 p0, .int .i64 p1, .int .i64 p2, .int .i64 p3, .int .i64 p4] sp)] =>
    bif cnt ws.length k ws.length then
      x (.exit 0) [.ptr 0 0, .own 69, .int .i64 ws.length] [some (.box false (rcs h ws c rp j g t)), some (.arr false (.int .i64) 3 [.int .i64 p0, .int .i64 (sgF (ws.length - k.toNat) ws k.toNat p1), .int .i64 p2, .int .i64 p3, .int .i64 p4] sp)]
    else none
  | _, _ => none
def l12_1 : Ev.Loop := ⟨{ len := 104, slots := [1, 3, 4], rows := [0, 69] }, L12_1⟩
def μ12_1 (vs : List AV) (rs : List (Option Row)) : Nat := match vs, rs with
  | [_, _, .int _ k], [some (.box _ [_, .slv _ ws, _, _, _, _, _]), _] => ((ws.length : Int) - k).toNat
  | _, _ => 0

noncomputable def b12_2 : Code := ((Try.f12.body.map loopsOf).getD []).getD 1 .skip
def L12_2 : LSumm := fun _ vs rs x => match vs, rs with
  | [.ptr 0 0, .own 69, .int .i64 k], [some (.box false [.int .i64 h, .slv (.agg [.str, .int .i64]) ws, .int .i64 c, .int .i64 rp, .int .i64 j, .bool g, .bool t]), some (.arr false (.int .i64) 3 [.int .i64 p0, .int .i64 p1, .int .i64 p2, .int .i64 p3, .int .i64 p4] sp)] =>
    bif decide (-1000 ≤ rp) && (decide (rp ≤ 1000) && (decide (0 ≤ j) && (decide (j ≤ 1000) && (decide (-2000 ≤ k) && (decide (k ≤ 2000) && (decide (-10000 ≤ p3 - (((rp - k + 25) / 25).toNat : Nat)) && decide (p3 + (((rp - k + 25) / 25).toNat : Nat) ≤ 10000))))))) then
      x (.exit 2) [.ptr 0 0, .own 69, .int .i64 (k + 25 * (((rp - k + 25) / 25).toNat : Nat))] [some (.box false (rcs h ws c rp j g t)), some (.arr false (.int .i64) 3 [.int .i64 p0, .int .i64 p1, .int .i64 p2, .int .i64 (p3 - (((rp - k + 25) / 25).toNat : Nat)), .int .i64 p4] sp)]
    else none
  | _, _ => none
def l12_2 : Ev.Loop := ⟨{ len := 104, slots := [1, 3, 5], rows := [0, 69] }, L12_2⟩
def μ12_2 (vs : List AV) (rs : List (Option Row)) : Nat := match vs, rs with
  | [_, _, .int _ k], [some (.box _ [_, _, _, .int _ rp, _, _, _]), _] => ((rp - k + 25) / 25).toNat
  | _, _ => 0

noncomputable def b12_3 : Code := ((Try.f12.body.map loopsOf).getD []).getD 2 .skip
def L12_3 : LSumm := fun _ vs rs x => match vs, rs with
  | [.ptr 0 0, .own 69, .int .i64 k], [some (.box false [.int .i64 h, .slv (.agg [.str, .int .i64]) ws, .int .i64 c, .int .i64 rp, .int .i64 j, .bool g, .bool t]), some (.arr false (.int .i64) 3 [.int .i64 p0, .int .i64 p1, .int .i64 p2, .int .i64 p3, .int .i64 p4] sp)] =>
    bif decide (-1000 ≤ rp) && (decide (rp ≤ 1000) && (decide (0 ≤ j) && (decide (j ≤ 1000) && (decide (-2000 ≤ k) && (decide (k ≤ 2000) && (decide (-10000 ≤ p3 - (((-rp - k + 25) / 25).toNat : Nat)) && decide (p3 + (((-rp - k + 25) / 25).toNat : Nat) ≤ 10000))))))) then
      x (.exit 4) [.ptr 0 0, .own 69, .int .i64 (k + 25 * (((-rp - k + 25) / 25).toNat : Nat))] [some (.box false (rcs h ws c rp j g t)), some (.arr false (.int .i64) 3 [.int .i64 p0, .int .i64 p1, .int .i64 p2, .int .i64 (p3 + (((-rp - k + 25) / 25).toNat : Nat)), .int .i64 p4] sp)]
    else none
  | _, _ => none
def l12_3 : Ev.Loop := ⟨{ len := 104, slots := [1, 3, 6], rows := [0, 69] }, L12_3⟩
def μ12_3 (vs : List AV) (rs : List (Option Row)) : Nat := match vs, rs with
  | [_, _, .int _ k], [some (.box _ [_, _, _, .int _ rp, _, _, _]), _] => ((-rp - k + 25) / 25).toNat
  | _, _ => 0

noncomputable def b12_4 : Code := ((Try.f12.body.map loopsOf).getD []).getD 3 .skip
def L12_4 : LSumm := fun _ vs rs x => match vs, rs with
  | [.ptr 0 0, .own 69, .int .i64 k], [some (.box false [.int .i64 h, .slv (.agg [.str, .int .i64]) ws, .int .i64 c, .int .i64 rp, .int .i64 j, .bool g, .bool t]), some (.arr false (.int .i64) 3 [.int .i64 p0, .int .i64 p1, .int .i64 p2, .int .i64 p3, .int .i64 p4] sp)] =>
    bif decide (-1000 ≤ rp) && (decide (rp ≤ 1000) && (decide (0 ≤ j) && (decide (j ≤ 1000) && (decide (-2000 ≤ k) && (decide (k ≤ 2000) && (decide (-10000 ≤ p4 - (((j - k + 10) / 10).toNat : Nat)) && decide (p4 + (((j - k + 10) / 10).toNat : Nat) ≤ 10000))))))) then
      x (.exit 6) [.ptr 0 0, .own 69, .int .i64 (k + 10 * (((j - k + 10) / 10).toNat : Nat))] [some (.box false (rcs h ws c rp j g t)), some (.arr false (.int .i64) 3 [.int .i64 p0, .int .i64 p1, .int .i64 p2, .int .i64 p3, .int .i64 (p4 + (((j - k + 10) / 10).toNat : Nat))] sp)]
    else none
  | _, _ => none
def l12_4 : Ev.Loop := ⟨{ len := 104, slots := [1, 3, 7], rows := [0, 69] }, L12_4⟩
def μ12_4 (vs : List AV) (rs : List (Option Row)) : Nat := match vs, rs with
  | [_, _, .int _ k], [some (.box _ [_, _, _, _, .int _ j, _, _]), _] => ((j - k + 10) / 10).toNat
  | _, _ => 0

noncomputable def b12_5 : Code := ((Try.f12.body.map loopsOf).getD []).getD 4 .skip
def L12_5 : LSumm := fun _ vs rs x => match vs, rs with
  | [.ptr 0 0, .own 69, .int .i64 k], [some (.box false [.int .i64 h, .slv (.agg [.str, .int .i64]) ws, .int .i64 c, .int .i64 rp, .int .i64 j, .bool g, .bool t]), some (.arr false (.int .i64) 3 [.int .i64 p0, .int .i64 p1, .int .i64 p2, .int .i64 p3, .int .i64 p4] sp)] =>
    bif decide (-1000 ≤ rp) && (decide (rp ≤ 1000) && (decide (0 ≤ j) && (decide (j ≤ 1000) && (decide (-2000 ≤ k) && (decide (k ≤ 2000) && (decide (-10000 ≤ p4 - (((k - j + 10) / 10).toNat : Nat)) && decide (p4 + (((k - j + 10) / 10).toNat : Nat) ≤ 10000))))))) then
      x (.exit 8) [.ptr 0 0, .own 69, .int .i64 (k - 10 * (((k - j + 10) / 10).toNat : Nat))] [some (.box false (rcs h ws c rp j g t)), some (.arr false (.int .i64) 3 [.int .i64 p0, .int .i64 p1, .int .i64 p2, .int .i64 p3, .int .i64 (p4 - (((k - j + 10) / 10).toNat : Nat))] sp)]
    else none
  | _, _ => none
def l12_5 : Ev.Loop := ⟨{ len := 104, slots := [1, 3, 8], rows := [0, 69] }, L12_5⟩
def μ12_5 (vs : List AV) (rs : List (Option Row)) : Nat := match vs, rs with
  | [_, _, .int _ k], [some (.box _ [_, _, _, _, .int _ j, _, _]), _] => ((k - j + 10) / 10).toNat
  | _, _ => 0

noncomputable def K12 : List (Nat × Ev.Loop) := [(3, l12_1), (14, l12_2), (18, l12_3), (22, l12_4), (26, l12_5)]
theorem loop12_1 : LoopOK Try.prog G9 K12 b12_1 l12_1 := by
  refine loopOK_of g9.natOK (KOK.nil (by kernel_rfl)) μ12_1 (fun ρ vs rs x r hx => ?_) (fun ρ vs rs x => ?_)
  · change L12_1 ρ vs rs x = some r at hx
    unfold L12_1 at hx
    split at hx
    · rename_i k h ws c rp j g t p0 p1 p2 p3 p4 sp
      obtain ⟨hc, hk⟩ := bif_some hx
      clear hx
      obtain ⟨_, hs, q, rfl, hq⟩ := cnt_spec hc
      rw [Int.toNat_natCast] at hk
      refine Eq.trans (b := bif decide ((q : Int) < ws.length) then (bif inb q ws.length then (bif resOf (ws.getD (q : Int).toNat .unk) == 1 then (bif inb q ws.length then (bif resOf (ws.getD (q : Int).toNat .unk) == 2 then (bif (-30 : Int) == 0 then bif decide (((ws.length : Int) - IntKind.i64.wrap (q + 1)).toNat < ((ws.length : Int) - q).toNat) then L12_1 ρ [.ptr 0 0, .own 69, .int .i64 (IntKind.i64.wrap (q + 1))] [some (.box false (rcs h ws c rp j g t)), some (.arr false (.int .i64) 3 [.int .i64 p0, .int .i64 20, .int .i64 p2, .int .i64 p3, .int .i64 p4] sp)] x else none else bif decide (((ws.length : Int) - IntKind.i64.wrap (q + 1)).toNat < ((ws.length : Int) - q).toNat) then L12_1 ρ [.ptr 0 0, .own 69, .int .i64 (IntKind.i64.wrap (q + 1))] [some (.box false (rcs h ws c rp j g t)), some (.arr false (.int .i64) 3 [.int .i64 p0, .int .i64 (-30), .int .i64 p2, .int .i64 p3, .int .i64 p4] sp)] x else none) else bif decide (((ws.length : Int) - IntKind.i64.wrap (q + 1)).toNat < ((ws.length : Int) - q).toNat) then L12_1 ρ [.ptr 0 0, .own 69, .int .i64 (IntKind.i64.wrap (q + 1))] [some (.box false (rcs h ws c rp j g t)), some (.arr false (.int .i64) 3 [.int .i64 p0, .int .i64 (-30), .int .i64 p2, .int .i64 p3, .int .i64 p4] sp)] x else none) else none)
         else (bif inb q ws.length then (bif resOf (ws.getD (q : Int).toNat .unk) == 2 then (bif p1 == 0 then bif decide (((ws.length : Int) - IntKind.i64.wrap (q + 1)).toNat < ((ws.length : Int) - q).toNat) then L12_1 ρ [.ptr 0 0, .own 69, .int .i64 (IntKind.i64.wrap (q + 1))] [some (.box false (rcs h ws c rp j g t)), some (.arr false (.int .i64) 3 [.int .i64 p0, .int .i64 20, .int .i64 p2, .int .i64 p3, .int .i64 p4] sp)] x else none else bif decide (((ws.length : Int) - IntKind.i64.wrap (q + 1)).toNat < ((ws.length : Int) - q).toNat) then L12_1 ρ [.ptr 0 0, .own 69, .int .i64 (IntKind.i64.wrap (q + 1))] [some (.box false (rcs h ws c rp j g t)), some (.arr false (.int .i64) 3 [.int .i64 p0, .int .i64 p1, .int .i64 p2, .int .i64 p3, .int .i64 p4] sp)] x else none) else bif decide (((ws.length : Int) - IntKind.i64.wrap (q + 1)).toNat < ((ws.length : Int) - q).toNat) then L12_1 ρ [.ptr 0 0, .own 69, .int .i64 (IntKind.i64.wrap (q + 1))] [some (.box false (rcs h ws c rp j g t)), some (.arr false (.int .i64) 3 [.int .i64 p0, .int .i64 p1, .int .i64 p2, .int .i64 p3, .int .i64 p4] sp)] x else none) else none)) else none)
        else x (.exit 0) [.ptr 0 0, .own 69, .int .i64 q] [some (.box false (rcs h ws c rp j g t)), some (.arr false (.int .i64) 3 [.int .i64 p0, .int .i64 p1, .int .i64 p2, .int .i64 p3, .int .i64 p4] sp)]) (by kernel_rfl) ?_
      by_cases hlt : q < ws.length
      · rw [Int.toNat_natCast, decide_eq_true (by omega : (q : Int) < ws.length), inb_true (by omega) (by omega), cnt_dec hlt hs]
        rw [show ws.length - q = (ws.length - (q + 1)) + 1 from by omega] at hk
        unfold sgF at hk
        have hL : ∀ v, L12_1 ρ [.ptr 0 0, .own 69, .int .i64 (IntKind.i64.wrap (q + 1))] [some (.box false (rcs h ws c rp j g t)), some (.arr false (.int .i64) 3 [.int .i64 p0, .int .i64 v, .int .i64 p2, .int .i64 p3, .int .i64 p4] sp)] x = x (.exit 0) [.ptr 0 0, .own 69, .int .i64 ws.length] [some (.box false (rcs h ws c rp j g t)), some (.arr false (.int .i64) 3 [.int .i64 p0, .int .i64 (sgF (ws.length - (q + 1)) ws (q + 1) v), .int .i64 p2, .int .i64 p3, .int .i64 p4] sp)] := fun v => by
          refine Eq.trans (cond_t (cnt_next hlt hs).1) ?_
          rw [(cnt_next hlt hs).2]
        simp only [cond_true, hL]
        generalize (resOf (ws.getD q .unk) == 1) = y1 at hk ⊢
        generalize (resOf (ws.getD q .unk) == 2) = y2 at hk ⊢
        cases y1
        · generalize hp : (p1 == 0) = y3 at hk ⊢
          cases y2 <;> cases y3 <;> (simp only [cond_false, cond_true, hp, Bool.and_true, Bool.and_false, Bool.and_self] at hk ⊢; exact hk)
        · cases y2 <;> exact hk
      · have hje : q = ws.length := by omega
        subst hje
        rw [decide_eq_false (by omega : ¬ ((ws.length : Int) < ws.length))]
        rw [show ws.length - ws.length = 0 from by omega] at hk
        exact hk
    · cases hx
  · change L12_1 ρ vs rs x = (L12_1 (Ex × List AV × List (Option Row)) vs rs fun e v y => some (e, v, y)).bind fun q => x q.1 q.2.1 q.2.2
    unfold L12_1
    split
    · rename_i k h ws c rp j g t p0 p1 p2 p3 p4 sp
      cases cnt ws.length k ws.length <;> rfl
    · rfl
theorem loop12_2 : LoopOK Try.prog G9 K12 b12_2 l12_2 := by
  refine loopOK_of g9.natOK (KOK.nil (by kernel_rfl)) μ12_2 (fun ρ vs rs x r hx => ?_) (fun ρ vs rs x => ?_)
  · change L12_2 ρ vs rs x = some r at hx
    unfold L12_2 at hx
    split at hx
    · rename_i k h ws c rp j g t p0 p1 p2 p3 p4 sp
      obtain ⟨hc, hk⟩ := bif_some hx
      clear hx
      simp only [Bool.and_eq_true, decide_eq_true_eq] at hc
      refine Eq.trans (b := bif decide (k ≤ rp) then (bif decide (((rp - (IntKind.i64.wrap (k + 25)) + 25) / 25).toNat < ((rp - k + 25) / 25).toNat) then
          L12_2 ρ [.ptr 0 0, .own 69, .int .i64 (IntKind.i64.wrap (k + 25))] [some (.box false (rcs h ws c rp j g t)), some (.arr false (.int .i64) 3 [.int .i64 p0, .int .i64 p1, .int .i64 p2, .int .i64 (IntKind.i64.wrap (p3 - 1)), .int .i64 p4] sp)] x else none)
        else x (.exit 2) [.ptr 0 0, .own 69, .int .i64 k] [some (.box false (rcs h ws c rp j g t)), some (.arr false (.int .i64) 3 [.int .i64 p0, .int .i64 p1, .int .i64 p2, .int .i64 p3, .int .i64 p4] sp)]) (by kernel_rfl) ?_
      by_cases hlt : k ≤ rp
      · rw [wrap_mid (k + 25) (by omega) (by omega), wrap_mid (p3 - 1) (by omega) (by omega), decide_eq_true (by omega), decide_eq_true (by omega)]
        simp only [cond_true]
        refine Eq.trans (cond_t (by simp only [Bool.and_eq_true, decide_eq_true_eq]; omega)) ?_
        have e1 : ((rp - k + 25) / 25).toNat = ((rp - (k + 25) + 25) / 25).toNat + 1 := by omega
        rw [e1] at hk
        generalize ((rp - (k + 25) + 25) / 25).toNat = M at hk ⊢
        rw [show k + 25 * ((M + 1 : Nat) : Int) = k + 25 + 25 * (M : Int) from by omega, show p3 - ((M + 1 : Nat) : Int) = p3 - 1 - (M : Int) from by omega] at hk
        exact hk
      · rw [decide_eq_false (by omega)]
        have e1 : ((rp - k + 25) / 25).toNat = 0 := by omega
        rw [e1] at hk
        simp only [Int.natCast_zero, Int.mul_zero, Int.add_zero, Int.sub_zero] at hk
        exact hk
    · cases hx
  · change L12_2 ρ vs rs x = (L12_2 (Ex × List AV × List (Option Row)) vs rs fun e v y => some (e, v, y)).bind fun q => x q.1 q.2.1 q.2.2
    unfold L12_2
    split
    · rename_i k h ws c rp j g t p0 p1 p2 p3 p4 sp
      generalize (decide (-1000 ≤ rp) && (decide (rp ≤ 1000) && (decide (0 ≤ j) && (decide (j ≤ 1000) && (decide (-2000 ≤ k) && (decide (k ≤ 2000) && (decide (-10000 ≤ p3 - (((rp - k + 25) / 25).toNat : Nat)) && decide (p3 + (((rp - k + 25) / 25).toNat : Nat) ≤ 10000)))))))) = q
      cases q <;> rfl
    · rfl
theorem loop12_3 : LoopOK Try.prog G9 K12 b12_3 l12_3 := by
  refine loopOK_of g9.natOK (KOK.nil (by kernel_rfl)) μ12_3 (fun ρ vs rs x r hx => ?_) (fun ρ vs rs x => ?_)
  · change L12_3 ρ vs rs x = some r at hx
    unfold L12_3 at hx
    split at hx
    · rename_i k h ws c rp j g t p0 p1 p2 p3 p4 sp
      obtain ⟨hc, hk⟩ := bif_some hx
      clear hx
      simp only [Bool.and_eq_true, decide_eq_true_eq] at hc
      refine Eq.trans (b := bif decide (k ≤ IntKind.i64.wrap (0 - rp)) then (bif decide (((-rp - (IntKind.i64.wrap (k + 25)) + 25) / 25).toNat < ((-rp - k + 25) / 25).toNat) then
          L12_3 ρ [.ptr 0 0, .own 69, .int .i64 (IntKind.i64.wrap (k + 25))] [some (.box false (rcs h ws c rp j g t)), some (.arr false (.int .i64) 3 [.int .i64 p0, .int .i64 p1, .int .i64 p2, .int .i64 (IntKind.i64.wrap (p3 + 1)), .int .i64 p4] sp)] x else none)
        else x (.exit 4) [.ptr 0 0, .own 69, .int .i64 k] [some (.box false (rcs h ws c rp j g t)), some (.arr false (.int .i64) 3 [.int .i64 p0, .int .i64 p1, .int .i64 p2, .int .i64 p3, .int .i64 p4] sp)]) (by kernel_rfl) ?_
      by_cases hlt : k ≤ -rp
      · rw [wrap_mid (0 - rp) (by omega) (by omega), wrap_mid (k + 25) (by omega) (by omega), wrap_mid (p3 + 1) (by omega) (by omega), decide_eq_true (by omega), decide_eq_true (by omega)]
        simp only [cond_true]
        refine Eq.trans (cond_t (by simp only [Bool.and_eq_true, decide_eq_true_eq]; omega)) ?_
        have e1 : ((-rp - k + 25) / 25).toNat = ((-rp - (k + 25) + 25) / 25).toNat + 1 := by omega
        rw [e1] at hk
        generalize ((-rp - (k + 25) + 25) / 25).toNat = M at hk ⊢
        rw [show k + 25 * ((M + 1 : Nat) : Int) = k + 25 + 25 * (M : Int) from by omega, show p3 + ((M + 1 : Nat) : Int) = p3 + 1 + (M : Int) from by omega] at hk
        exact hk
      · rw [wrap_mid (0 - rp) (by omega) (by omega), decide_eq_false (by omega)]
        have e1 : ((-rp - k + 25) / 25).toNat = 0 := by omega
        rw [e1] at hk
        simp only [Int.natCast_zero, Int.mul_zero, Int.add_zero, Int.sub_zero] at hk
        exact hk
    · cases hx
  · change L12_3 ρ vs rs x = (L12_3 (Ex × List AV × List (Option Row)) vs rs fun e v y => some (e, v, y)).bind fun q => x q.1 q.2.1 q.2.2
    unfold L12_3
    split
    · rename_i k h ws c rp j g t p0 p1 p2 p3 p4 sp
      generalize (decide (-1000 ≤ rp) && (decide (rp ≤ 1000) && (decide (0 ≤ j) && (decide (j ≤ 1000) && (decide (-2000 ≤ k) && (decide (k ≤ 2000) && (decide (-10000 ≤ p3 - (((-rp - k + 25) / 25).toNat : Nat)) && decide (p3 + (((-rp - k + 25) / 25).toNat : Nat) ≤ 10000)))))))) = q
      cases q <;> rfl
    · rfl
theorem loop12_4 : LoopOK Try.prog G9 K12 b12_4 l12_4 := by
  refine loopOK_of g9.natOK (KOK.nil (by kernel_rfl)) μ12_4 (fun ρ vs rs x r hx => ?_) (fun ρ vs rs x => ?_)
  · change L12_4 ρ vs rs x = some r at hx
    unfold L12_4 at hx
    split at hx
    · rename_i k h ws c rp j g t p0 p1 p2 p3 p4 sp
      obtain ⟨hc, hk⟩ := bif_some hx
      clear hx
      simp only [Bool.and_eq_true, decide_eq_true_eq] at hc
      refine Eq.trans (b := bif decide (k ≤ j) then (bif decide (((j - (IntKind.i64.wrap (k + 10)) + 10) / 10).toNat < ((j - k + 10) / 10).toNat) then
          L12_4 ρ [.ptr 0 0, .own 69, .int .i64 (IntKind.i64.wrap (k + 10))] [some (.box false (rcs h ws c rp j g t)), some (.arr false (.int .i64) 3 [.int .i64 p0, .int .i64 p1, .int .i64 p2, .int .i64 p3, .int .i64 (IntKind.i64.wrap (p4 + 1))] sp)] x else none)
        else x (.exit 6) [.ptr 0 0, .own 69, .int .i64 k] [some (.box false (rcs h ws c rp j g t)), some (.arr false (.int .i64) 3 [.int .i64 p0, .int .i64 p1, .int .i64 p2, .int .i64 p3, .int .i64 p4] sp)]) (by kernel_rfl) ?_
      by_cases hlt : k ≤ j
      · rw [wrap_mid (k + 10) (by omega) (by omega), wrap_mid (p4 + 1) (by omega) (by omega), decide_eq_true (by omega), decide_eq_true (by omega)]
        simp only [cond_true]
        refine Eq.trans (cond_t (by simp only [Bool.and_eq_true, decide_eq_true_eq]; omega)) ?_
        have e1 : ((j - k + 10) / 10).toNat = ((j - (k + 10) + 10) / 10).toNat + 1 := by omega
        rw [e1] at hk
        generalize ((j - (k + 10) + 10) / 10).toNat = M at hk ⊢
        rw [show k + 10 * ((M + 1 : Nat) : Int) = k + 10 + 10 * (M : Int) from by omega, show p4 + ((M + 1 : Nat) : Int) = p4 + 1 + (M : Int) from by omega] at hk
        exact hk
      · rw [decide_eq_false (by omega)]
        have e1 : ((j - k + 10) / 10).toNat = 0 := by omega
        rw [e1] at hk
        simp only [Int.natCast_zero, Int.mul_zero, Int.add_zero, Int.sub_zero] at hk
        exact hk
    · cases hx
  · change L12_4 ρ vs rs x = (L12_4 (Ex × List AV × List (Option Row)) vs rs fun e v y => some (e, v, y)).bind fun q => x q.1 q.2.1 q.2.2
    unfold L12_4
    split
    · rename_i k h ws c rp j g t p0 p1 p2 p3 p4 sp
      generalize (decide (-1000 ≤ rp) && (decide (rp ≤ 1000) && (decide (0 ≤ j) && (decide (j ≤ 1000) && (decide (-2000 ≤ k) && (decide (k ≤ 2000) && (decide (-10000 ≤ p4 - (((j - k + 10) / 10).toNat : Nat)) && decide (p4 + (((j - k + 10) / 10).toNat : Nat) ≤ 10000)))))))) = q
      cases q <;> rfl
    · rfl
theorem loop12_5 : LoopOK Try.prog G9 K12 b12_5 l12_5 := by
  refine loopOK_of g9.natOK (KOK.nil (by kernel_rfl)) μ12_5 (fun ρ vs rs x r hx => ?_) (fun ρ vs rs x => ?_)
  · change L12_5 ρ vs rs x = some r at hx
    unfold L12_5 at hx
    split at hx
    · rename_i k h ws c rp j g t p0 p1 p2 p3 p4 sp
      obtain ⟨hc, hk⟩ := bif_some hx
      clear hx
      simp only [Bool.and_eq_true, decide_eq_true_eq] at hc
      refine Eq.trans (b := bif decide (k ≥ j) then (bif decide ((((IntKind.i64.wrap (k - 10)) - j + 10) / 10).toNat < ((k - j + 10) / 10).toNat) then
          L12_5 ρ [.ptr 0 0, .own 69, .int .i64 (IntKind.i64.wrap (k - 10))] [some (.box false (rcs h ws c rp j g t)), some (.arr false (.int .i64) 3 [.int .i64 p0, .int .i64 p1, .int .i64 p2, .int .i64 p3, .int .i64 (IntKind.i64.wrap (p4 - 1))] sp)] x else none)
        else x (.exit 8) [.ptr 0 0, .own 69, .int .i64 k] [some (.box false (rcs h ws c rp j g t)), some (.arr false (.int .i64) 3 [.int .i64 p0, .int .i64 p1, .int .i64 p2, .int .i64 p3, .int .i64 p4] sp)]) (by kernel_rfl) ?_
      by_cases hlt : k ≥ j
      · rw [wrap_mid (k - 10) (by omega) (by omega), wrap_mid (p4 - 1) (by omega) (by omega), decide_eq_true (by omega), decide_eq_true (by omega)]
        simp only [cond_true]
        refine Eq.trans (cond_t (by simp only [Bool.and_eq_true, decide_eq_true_eq]; omega)) ?_
        have e1 : ((k - j + 10) / 10).toNat = (((k - 10) - j + 10) / 10).toNat + 1 := by omega
        rw [e1] at hk
        generalize (((k - 10) - j + 10) / 10).toNat = M at hk ⊢
        rw [show k - 10 * ((M + 1 : Nat) : Int) = k - 10 - 10 * (M : Int) from by omega, show p4 - ((M + 1 : Nat) : Int) = p4 - 1 - (M : Int) from by omega] at hk
        exact hk
      · rw [decide_eq_false (by omega)]
        have e1 : ((k - j + 10) / 10).toNat = 0 := by omega
        rw [e1] at hk
        simp only [Int.natCast_zero, Int.mul_zero, Int.add_zero, Int.sub_zero] at hk
        exact hk
    · cases hx
  · change L12_5 ρ vs rs x = (L12_5 (Ex × List AV × List (Option Row)) vs rs fun e v y => some (e, v, y)).bind fun q => x q.1 q.2.1 q.2.2
    unfold L12_5
    split
    · rename_i k h ws c rp j g t p0 p1 p2 p3 p4 sp
      generalize (decide (-1000 ≤ rp) && (decide (rp ≤ 1000) && (decide (0 ≤ j) && (decide (j ≤ 1000) && (decide (-2000 ≤ k) && (decide (k ≤ 2000) && (decide (-10000 ≤ p4 - (((k - j + 10) / 10).toNat : Nat)) && decide (p4 + (((k - j + 10) / 10).toNat : Nat) ≤ 10000)))))))) = q
      cases q <;> rfl
    · rfl

/-- The points as they are reckoned. -/
def hostQ (h : Int) : Int := (([AV.int .i64 5, .int .i64 0, .int .i64 40, .int .i64 20, .int .i64 5, .int .i64 10].getD h.toNat .unk).cells.headD .unk).toInt
theorem hostQ_eq (h : Int) : hostQ h = hostP h := by
  unfold hostQ hostP
  match h.toNat with
  | 0 => rfl
  | 1 => rfl
  | 2 => rfl
  | 3 => rfl
  | 4 => rfl
  | 5 => rfl
  | n + 6 => rfl
def rest12 {ρ : Type} (h rp j : Int) (k : AV → Option ρ) (p1 p2 : Int) : Option ρ := bif decide (-1000 ≤ rp) && (decide (rp ≤ 1000) && (decide (0 ≤ j) && (decide (j ≤ 1000) && (decide (-2000 ≤ (25 : Int)) && (decide ((25 : Int) ≤ 2000) && (decide (-10000 ≤ (0 : Int) - (((rp - 25 + 25) / 25).toNat : Nat)) && decide ((0 : Int) + (((rp - 25 + 25) / 25).toNat : Nat) ≤ 10000))))))) then (bif decide (-1000 ≤ rp) && (decide (rp ≤ 1000) && (decide (0 ≤ j) && (decide (j ≤ 1000) && (decide (-2000 ≤ (25 : Int)) && (decide ((25 : Int) ≤ 2000) && (decide (-10000 ≤ ((0 : Int) - (((rp - 25 + 25) / 25).toNat : Nat)) - (((-rp - 25 + 25) / 25).toNat : Nat)) && decide (((0 : Int) - (((rp - 25 + 25) / 25).toNat : Nat)) + (((-rp - 25 + 25) / 25).toNat : Nat) ≤ 10000))))))) then (bif decide (-1000 ≤ rp) && (decide (rp ≤ 1000) && (decide (0 ≤ j) && (decide (j ≤ 1000) && (decide (-2000 ≤ (510 : Int)) && (decide ((510 : Int) ≤ 2000) && (decide (-10000 ≤ (0 : Int) - (((j - 510 + 10) / 10).toNat : Nat)) && decide ((0 : Int) + (((j - 510 + 10) / 10).toNat : Nat) ≤ 10000))))))) then (bif decide (-1000 ≤ rp) && (decide (rp ≤ 1000) && (decide (0 ≤ j) && (decide (j ≤ 1000) && (decide (-2000 ≤ (490 : Int)) && (decide ((490 : Int) ≤ 2000) && (decide (-10000 ≤ ((0 : Int) + (((j - 510 + 10) / 10).toNat : Nat)) - (((490 - j + 10) / 10).toNat : Nat)) && decide (((0 : Int) + (((j - 510 + 10) / 10).toNat : Nat)) + (((490 - j + 10) / 10).toNat : Nat) ≤ 10000))))))) then k (.slv (.int .i64) [.int .i64 (hostQ h), .int .i64 p1, .int .i64 p2, .int .i64 ((0 : Int) - (((rp - 25 + 25) / 25).toNat : Nat) + (((-rp - 25 + 25) / 25).toNat : Nat)), .int .i64 ((0 : Int) + (((j - 510 + 10) / 10).toNat : Nat) - (((490 - j + 10) / 10).toNat : Nat))]) else none) else none) else none) else none
theorem sgF_eq : ∀ (n : Nat) (es : List AV) (i : Nat) (b : Int), i + n = es.length → (b = 0 ∨ b = 20 ∨ b = -30) → sgF n es i b = bif (es.drop i).any (isV 1) then -30 else bif b == 0 then (bif (es.drop i).any (isV 2) then 20 else 0) else b
  | 0, es, i, b, h, hb => by
    unfold sgF
    rw [List.drop_of_length_le (by omega)]
    rcases hb with rfl | rfl | rfl <;> rfl
  | n + 1, es, i, b, h, hb => by
    have hi : i < es.length := by omega
    have hg : es.getD i .unk = es[i] := by simp [List.getD, hi]
    unfold sgF
    rw [hg, List.drop_eq_getElem_cons hi, List.any_cons, List.any_cons]
    have h1 : isV 1 es[i] = (resOf es[i] == 1) := rfl
    have h2 : isV 2 es[i] = (resOf es[i] == 2) := rfl
    rw [h1, h2]
    have hx : (resOf es[i] == 1) = true → (resOf es[i] == 2) = false := fun hh => by
      have : resOf es[i] = 1 := by simpa using hh
      rw [this]; rfl
    generalize (resOf es[i] == 1) = y1 at hx ⊢
    generalize (resOf es[i] == 2) = y2 at hx ⊢
    cases y1
    · cases y2
      · simp only [Bool.false_and, cond_false, Bool.false_or]
        exact sgF_eq n es (i + 1) b (by omega) hb
      · rcases hb with rfl | rfl | rfl
        · refine (sgF_eq n es (i + 1) 20 (by omega) (.inr (.inl rfl))).trans ?_
          simp only [Bool.false_or, Bool.true_or]
          rfl
        · refine (sgF_eq n es (i + 1) 20 (by omega) (.inr (.inl rfl))).trans ?_
          simp only [Bool.false_or]
          rfl
        · refine (sgF_eq n es (i + 1) (-30) (by omega) (.inr (.inr rfl))).trans ?_
          simp only [Bool.false_or]
          rfl
    · have := hx rfl
      subst this
      refine (sgF_eq n es (i + 1) (-30) (by omega) (.inr (.inr rfl))).trans ?_
      generalize (es.drop (i + 1)).any (isV 1) = z
      cases z <;> rfl
def ptL (h : Int) (es : List AV) (c rp j : Int) : List AV := [.int .i64 (hostP h), .int .i64 (sigP es), .int .i64 (chP c), .int .i64 (repP rp), .int .i64 (junkP j)]
def F12 : Summ := fun _ avs k => match avs with
  | [.agg [.int .i64 h, .slv (.agg [.str, .int .i64]) es, .int .i64 c, .int .i64 rp, .int .i64 j, .bool _, .bool _]] =>
    bif small es.length && (decide (0 ≤ h) && (decide (h ≤ 5) && (decide (-1000 ≤ rp) && (decide (rp ≤ 1000) && (decide (0 ≤ j) && decide (j ≤ 1000)))))) then k (.slv (.int .i64) (ptL h es c rp j)) else none
  | _ => none
theorem rest12_eq {ρ : Type} (h rp j : Int) (k : AV → Option ρ) (p1 p2 : Int) (h1 : -1000 ≤ rp) (h2 : rp ≤ 1000) (h3 : 0 ≤ j) (h4 : j ≤ 1000) : rest12 h rp j k p1 p2 = k (.slv (.int .i64) [.int .i64 (hostP h), .int .i64 p1, .int .i64 p2, .int .i64 (repP rp), .int .i64 (junkP j)]) := by
  unfold rest12
  have e1 : ((0 : Int) - (((rp - 25 + 25) / 25).toNat : Nat) + (((-rp - 25 + 25) / 25).toNat : Nat)) = repP rp := by
    unfold repP
    rcases tdiv_cases (-rp) 25 with ⟨h, e⟩ | ⟨h, e⟩ <;> rw [e] <;> omega
  have e2 : ((0 : Int) + (((j - 510 + 10) / 10).toNat : Nat) - (((490 - j + 10) / 10).toNat : Nat)) = junkP j := by
    unfold junkP
    rcases tdiv_cases (j - 500) 10 with ⟨h, e⟩ | ⟨h, e⟩ <;> rw [e] <;> omega
  refine Eq.trans (cond_t (by simp only [Bool.and_eq_true, decide_eq_true_eq]; omega)) (Eq.trans (cond_t (by simp only [Bool.and_eq_true, decide_eq_true_eq]; omega)) (Eq.trans (cond_t (by simp only [Bool.and_eq_true, decide_eq_true_eq]; omega)) (Eq.trans (cond_t (by simp only [Bool.and_eq_true, decide_eq_true_eq]; omega)) ?_)))
  rw [e1, e2, hostQ_eq]
theorem ok12 : SumOK Try.prog 12 F12 ∧ SNat F12 := by
  refine ⟨sums (K := K12) (bs := [b12_1, b12_2, b12_3, b12_4, b12_5]) g9 Try.func12 (by kernel_rfl) ?_ fun ρ avs k r h => ?_, fun ρ avs k => ?_⟩
  · simp only [List.forall_mem_cons]
    exact ⟨⟨l12_1, by kernel_rfl, loop12_1⟩, ⟨l12_2, by kernel_rfl, loop12_2⟩, ⟨l12_3, by kernel_rfl, loop12_3⟩, ⟨l12_4, by kernel_rfl, loop12_4⟩, ⟨l12_5, by kernel_rfl, loop12_5⟩, fun _ h => by cases h⟩
  · unfold F12 at h
    split at h
    · rename_i h' es c rp j g t
      obtain ⟨hc, hk⟩ := bif_some h
      clear h
      simp only [Bool.and_eq_true, decide_eq_true_eq] at hc
      obtain ⟨hs, a1, a2, a3, a4, a5, a6⟩ := hc
      refine Eq.trans (b := bif inb h' 6 then (bif decide (h'.toNat < 6) then (bif cnt es.length 0 es.length then
        (bif decide (c < 0) then (bif decide (c > 0) then rest12 h' rp j k (sgF (es.length - (0 : Int).toNat) es (0 : Int).toNat 0) (-10) else rest12 h' rp j k (sgF (es.length - (0 : Int).toNat) es (0 : Int).toNat 0) 10)
         else (bif decide (c > 0) then rest12 h' rp j k (sgF (es.length - (0 : Int).toNat) es (0 : Int).toNat 0) (-10) else rest12 h' rp j k (sgF (es.length - (0 : Int).toNat) es (0 : Int).toNat 0) 0)) else none) else none) else none) (by kernel_rfl) ?_
      refine Eq.trans (cond_t (inb_true a1 (by omega))) (Eq.trans (cond_t (decide_eq_true (by omega))) (Eq.trans (cond_t (cnt_zero hs)) ?_))
      have e1 : sgF (es.length - (0 : Int).toNat) es (0 : Int).toNat 0 = sigP es := (sgF_eq es.length es 0 0 (by omega) (.inl rfl)).trans (by rw [List.drop_zero]; rfl)
      rw [e1, rest12_eq _ _ _ _ _ _ a3 a4 a5 a6, rest12_eq _ _ _ _ _ _ a3 a4 a5 a6, rest12_eq _ _ _ _ _ _ a3 a4 a5 a6]
      unfold ptL chP at hk
      have hx : decide (c > 0) = true → decide (c < 0) = false := fun hh => by simp at hh ⊢; omega
      generalize decide (c > 0) = y1 at hk hx ⊢
      generalize decide (c < 0) = y2 at hk hx ⊢
      cases y1 <;> cases y2 <;> first | exact hk | exact absurd (hx rfl) (by simp)
    · cases h
  · unfold F12
    split
    · rename_i h' es c rp j g t
      generalize (small es.length && (decide (0 ≤ h') && (decide (h' ≤ 5) && (decide (-1000 ≤ rp) && (decide (rp ≤ 1000) && (decide (0 ≤ j) && decide (j ≤ 1000))))))) = q
      cases q <;> rfl
    · rfl
noncomputable def G10 : Env := { G9 with pure := (12, F12) :: G9.pure }
theorem g10 : GOK Try.prog G10 := GOK.also g9 ok12

end Go.Proofs.Ytllammgffeebfaa
