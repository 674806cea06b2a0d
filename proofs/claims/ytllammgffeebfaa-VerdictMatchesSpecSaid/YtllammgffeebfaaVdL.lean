/-
  Two lists of reasons are the same.
-/
import Derived.Test.YtllammgffeebfaaVdK
namespace Go.Proofs.Ytllammgffeebfaa
open Go.Ev

def difR (xs ys : List AV) (i : Nat) : Bool :=
  !(((xs.getD i .unk).cells.headD .unk).toStr == ((ys.getD i .unk).cells.headD .unk).toStr && (((xs.getD i .unk).cells.tail.headD .unk).toInt == ((ys.getD i .unk).cells.tail.headD .unk).toInt && true))
theorem difR_self (xs : List AV) (i : Nat) : difR xs xs i = false := by simp [difR]
noncomputable def b11 : Code := ((Try.f11.body.map loopsOf).getD []).headD .skip
def L11 : LSumm := fun _ vs rs k => match vs, rs with
  | [.slv (.agg [.str, .int .i64]) xs, .slv (.agg [.str, .int .i64]) ys, .bool z, .int .i64 i], [] =>
    bif cnt xs.length i xs.length && Nat.beq xs.length ys.length then
      sF (difR xs ys) xs.length (fun q => k .ret [.slv sR xs, .slv sR ys, .bool false, .int .i64 (q : Nat)] []) (k (.exit 0) [.slv sR xs, .slv sR ys, .bool z, .int .i64 xs.length] []) i.toNat
    else none
  | _, _ => none
def l11 : Ev.Loop := ⟨{ len := 26, slots := [0, 1, 4, 5] }, L11⟩
def μ11 (vs : List AV) (_ : List (Option Row)) : Nat := match vs with
  | [.slv _ xs, _, _, .int _ i] => ((xs.length : Int) - i).toNat
  | _ => 0
theorem loop11 : LoopOK Try.prog G1 [(4, l11)] b11 l11 := by
  refine loopOK_of g1.natOK (KOK.nil (by kernel_rfl)) μ11 (fun ρ vs rs k r h => ?_) (fun ρ vs rs k => ?_)
  · change L11 ρ vs rs k = some r at h
    unfold L11 at h
    split at h
    · rename_i xs ys z i
      obtain ⟨hc, hk⟩ := bif_some h
      clear h
      simp only [Bool.and_eq_true] at hc
      obtain ⟨hc, hp⟩ := hc
      have hp' : xs.length = ys.length := Nat.eq_of_beq_eq_true hp
      obtain ⟨_, hs, j, rfl, hj⟩ := cnt_spec hc
      rw [Int.toNat_natCast] at hk
      refine Eq.trans (b := bif decide ((j : Int) < xs.length) then (bif inb j xs.length then (bif inb j ys.length then (bif difR xs ys (j : Int).toNat then k .ret [.slv sR xs, .slv sR ys, .bool false, .int .i64 j] []
          else (bif decide (((xs.length : Int) - IntKind.i64.wrap ((j : Int) + 1)).toNat < ((xs.length : Int) - (j : Int)).toNat) then L11 ρ [.slv sR xs, .slv sR ys, .bool z, .int .i64 (IntKind.i64.wrap (j + 1))] [] k else none)) else none) else none)
        else k (.exit 0) [.slv sR xs, .slv sR ys, .bool z, .int .i64 j] []) (by kernel_rfl) ?_
      by_cases he : j = xs.length
      · subst he
        exact sF_ok hk (Nat.le_refl _) (fun hlt => absurd hlt (Nat.lt_irrefl _))
      · have hlt : j < xs.length := by omega
        rw [sF_step _ _ _ _ _ hlt] at hk
        refine Eq.trans (cond_t (decide_eq_true (by omega))) (Eq.trans (cond_t (inb_true (by omega) (by omega))) (Eq.trans (cond_t (inb_true (by omega) (by omega))) ?_))
        rw [← hk, cnt_dec hlt hs, Int.toNat_natCast]
        have hL : L11 ρ [.slv sR xs, .slv sR ys, .bool z, .int .i64 (IntKind.i64.wrap (j + 1))] [] k = sF (difR xs ys) xs.length (fun q => k .ret [.slv sR xs, .slv sR ys, .bool false, .int .i64 (q : Nat)] []) (k (.exit 0) [.slv sR xs, .slv sR ys, .bool z, .int .i64 xs.length] []) (j + 1) := by
          refine Eq.trans (cond_t (and_t (cnt_next hlt hs).1 hp)) ?_
          rw [(cnt_next hlt hs).2]
        rw [hL]
        cases difR xs ys j <;> rfl
    · cases h
  · change L11 ρ vs rs k = (L11 (Ex × List AV × List (Option Row)) vs rs fun e v x => some (e, v, x)).bind fun q => k q.1 q.2.1 q.2.2
    unfold L11 sF
    split
    · rename_i xs ys z i
      generalize (cnt xs.length i xs.length && Nat.beq xs.length ys.length) = c
      cases c
      · rfl
      · cases (findN (difR xs ys) xs.length i.toNat).isSome <;> rfl
    · rfl

def F11 : Summ := fun _ avs k => match avs with
  | [.slv (.agg [.str, .int .i64]) xs, .slv (.agg [.str, .int .i64]) ys] => bif small xs.length && Nat.beq xs.length ys.length then k (.bool (!(findN (difR xs ys) xs.length 0).isSome)) else none
  | _ => none
theorem ok11 : SumOK Try.prog 11 F11 ∧ SNat F11 := by
  refine ⟨sum1 (K := [(4, l11)]) (b := b11) (l := l11) g1 Try.func11 (by kernel_rfl) (by kernel_rfl) loop11 fun ρ avs k r h => ?_, fun ρ avs k => ?_⟩
  · unfold F11 at h
    split at h
    · rename_i xs ys
      obtain ⟨hc, hk⟩ := bif_some h
      clear h
      simp only [Bool.and_eq_true] at hc
      obtain ⟨hs, hp⟩ := hc
      have hp' : xs.length = ys.length := Nat.eq_of_beq_eq_true hp
      refine Eq.trans (b := bif (xs.length : Int) != (ys.length : Int) then k (.bool false) else bif cnt xs.length 0 xs.length && Nat.beq xs.length ys.length then sF (difR xs ys) xs.length (fun _ => k (.bool false)) (k (.bool true)) (0 : Int).toNat else none) (by kernel_rfl) ?_
      rw [cnt_zero hs, hp, hp', bne_self_eq_false]
      rw [← hk, hp']
      unfold sF
      show (bif (findN (difR xs ys) ys.length 0).isSome then k (.bool false) else k (.bool true)) = k (.bool (!(findN (difR xs ys) ys.length 0).isSome))
      cases (findN (difR xs ys) ys.length 0).isSome <;> rfl
    · cases h
  · unfold F11
    split
    · rename_i xs ys
      cases (small xs.length && Nat.beq xs.length ys.length) <;> rfl
    · rfl

end Go.Proofs.Ytllammgffeebfaa
