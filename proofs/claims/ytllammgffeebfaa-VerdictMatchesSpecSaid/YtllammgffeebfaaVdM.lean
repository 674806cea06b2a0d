/-
  What the specification decides.
-/
import Derived.Test.YtllammgffeebfaaVdL
namespace Go.Proofs.Ytllammgffeebfaa
open Go.Ev

def vI (e : AV) : Int := (e.cells.headD .unk).toInt
def newR (ps ns : List AV) (i : Nat) : AV := .agg [.str ((ns.getD i .unk).cells.headD .unk).toStr, .int .i64 (vI (ps.getD i .unk))]
def stepO (ps ns : List AV) (i : Nat) (os : List AV) : List AV := bif vI (ps.getD i .unk) != 0 then os ++ [newR ps ns i] else os
def accF (ps ns : List AV) : Nat → Nat → Int → List AV → Int × List AV
  | 0, _, s, os => (s, os)
  | n + 1, i, s, os => accF ps ns n (i + 1) (IntKind.i64.wrap (s + vI (ps.getD i .unk))) (stepO ps ns i os)
noncomputable def b10 : Code := ((Try.f10.body.map loopsOf).getD []).headD .skip
def L10 : LSumm := fun _ vs rs k => match vs, rs with
  | [.ptr 0 0, .slv (.int .i64) ps, .own 128, .int .i64 s, .own 9999, .int .i64 i], [some (.box false [.int .i64 h', .slv (.agg [.str, .int .i64]) es, .int .i64 c, .int .i64 rp, .int .i64 j', .bool g, .bool t]), some (.arr false .str 9 ns none), some (.arr false (.agg [.str, .int .i64]) 40 os none)] =>
    bif cnt 5 i 5 && (Nat.beq ps.length 5 && (Nat.beq ns.length 5 && Nat.ble os.length i.toNat)) then k (.exit 0) [.ptr 0 0, .slv (.int .i64) ps, .own 128, .int .i64 (accF ps ns (5 - i.toNat) i.toNat s os).1, .own 9999, .int .i64 5] [some (.box false (rcs h' es c rp j' g t)), some (.arr false .str 9 ns none), some (.arr false sR 40 (accF ps ns (5 - i.toNat) i.toNat s os).2 none)] else none
  | _, _ => none
def l10 : Ev.Loop := ⟨{ len := 73, slots := [1, 4, 5, 6, 7, 8], rows := [0, 128, 9999], homes := [(7, 9999, 40)] }, L10⟩
def μ10 (vs : List AV) (_ : List (Option Row)) : Nat := match vs with
  | [_, _, _, _, _, .int _ i] => (5 - i).toNat
  | _ => 0
theorem room24 (n : Nat) (h : n ≤ 100) : roomB n 24 = true := by simp [roomB]; omega
theorem loop10 : LoopOK Try.prog G10 [(6, l10)] b10 l10 := by
  refine loopOK_of g10.natOK (KOK.nil (by kernel_rfl)) μ10 (fun ρ vs rs k r h => ?_) (fun ρ vs rs k => ?_)
  · change L10 ρ vs rs k = some r at h
    unfold L10 at h
    split at h
    · rename_i ps s i h' es c rp j' g t ns os
      obtain ⟨hc, hk⟩ := bif_some h
      clear h
      simp only [Bool.and_eq_true] at hc
      obtain ⟨hc, hp, hn, ho⟩ := hc
      have hp' : ps.length = 5 := Nat.eq_of_beq_eq_true hp
      have hn' : ns.length = 5 := Nat.eq_of_beq_eq_true hn
      have ho' : os.length ≤ i.toNat := Nat.le_of_ble_eq_true ho
      obtain ⟨_, hs, j, rfl, hj⟩ := cnt_spec hc
      rw [Int.toNat_natCast] at hk ho'
      refine Eq.trans (b := bif decide ((j : Int) < 5) then (bif inb j ps.length then (bif inb j ps.length then (bif vI (ps.getD (j : Int).toNat .unk) != 0 then
            (bif inb j ns.length then (bif decide ((j : Int).toNat < ns.length) then (bif inb j ps.length then (bif roomB (os.length + 1) 24 then
              (bif decide ((5 - IntKind.i64.wrap ((j : Int) + 1)).toNat < (5 - (j : Int)).toNat) then L10 ρ [.ptr 0 0, .slv (.int .i64) ps, .own 128, .int .i64 (IntKind.i64.wrap (s + vI (ps.getD (j : Int).toNat .unk))), .own 9999, .int .i64 (IntKind.i64.wrap (j + 1))] [some (.box false (rcs h' es c rp j' g t)), some (.arr false .str 9 ns none), some (.arr false sR 40 (os ++ [newR ps ns (j : Int).toNat]) none)] k else none) else none) else none) else none) else none)
            else (bif decide ((5 - IntKind.i64.wrap ((j : Int) + 1)).toNat < (5 - (j : Int)).toNat) then L10 ρ [.ptr 0 0, .slv (.int .i64) ps, .own 128, .int .i64 (IntKind.i64.wrap (s + vI (ps.getD (j : Int).toNat .unk))), .own 9999, .int .i64 (IntKind.i64.wrap (j + 1))] [some (.box false (rcs h' es c rp j' g t)), some (.arr false .str 9 ns none), some (.arr false sR 40 os none)] k else none)) else none) else none)
        else k (.exit 0) [.ptr 0 0, .slv (.int .i64) ps, .own 128, .int .i64 s, .own 9999, .int .i64 j] [some (.box false (rcs h' es c rp j' g t)), some (.arr false .str 9 ns none), some (.arr false sR 40 os none)]) (by kernel_rfl) ?_
      by_cases he : j = 5
      · subst he
        exact hk
      · have hlt : j < 5 := by omega
        have hd : decide ((5 - IntKind.i64.wrap ((j : Int) + 1)).toNat < (5 - (j : Int)).toNat) = true := cnt_dec hlt hs
        have hb : inb j ps.length = true := inb_true (by omega) (by omega)
        have hb' : inb j ns.length = true := inb_true (by omega) (by omega)
        have hnx := cnt_next hlt hs
        have hL : ∀ os' : List AV, os'.length ≤ j + 1 → L10 ρ [.ptr 0 0, .slv (.int .i64) ps, .own 128, .int .i64 (IntKind.i64.wrap (s + vI (ps.getD (j : Int).toNat .unk))), .own 9999, .int .i64 (IntKind.i64.wrap (j + 1))] [some (.box false (rcs h' es c rp j' g t)), some (.arr false .str 9 ns none), some (.arr false sR 40 os' none)] k = k (.exit 0) [.ptr 0 0, .slv (.int .i64) ps, .own 128, .int .i64 (accF ps ns (5 - (j + 1)) (j + 1) (IntKind.i64.wrap (s + vI (ps.getD (j : Int).toNat .unk))) os').1, .own 9999, .int .i64 5] [some (.box false (rcs h' es c rp j' g t)), some (.arr false .str 9 ns none), some (.arr false sR 40 (accF ps ns (5 - (j + 1)) (j + 1) (IntKind.i64.wrap (s + vI (ps.getD (j : Int).toNat .unk))) os').2 none)] := fun os' hl => by
          refine Eq.trans (cond_t (and_t hnx.1 (and_t hp (and_t hn (by rw [hnx.2]; exact Nat.ble_eq_true_of_le hl))))) ?_
          rw [hnx.2]
        rw [hd, hb, hb', hL _ (by simp; omega), hL _ (by omega), room24 _ (by omega), decide_eq_true (by omega : (j : Int) < 5), decide_eq_true (by omega : (j : Int).toNat < ns.length)]
        have h5 : 5 - j = (5 - (j + 1)) + 1 := by omega
        rw [h5] at hk
        simp only [accF, stepO] at hk
        rw [Int.toNat_natCast, ← hk]
        cases vI (ps.getD j .unk) != 0 <;> rfl
    · cases h
  · change L10 ρ vs rs k = (L10 (Ex × List AV × List (Option Row)) vs rs fun e v x => some (e, v, x)).bind fun q => k q.1 q.2.1 q.2.2
    unfold L10
    split
    · rename_i ps s i h' es c rp j' g t ns os
      generalize (cnt 5 i 5 && (Nat.beq ps.length 5 && (Nat.beq ns.length 5 && Nat.ble os.length i.toNat))) = x
      cases x <;> rfl
    · rfl

end Go.Proofs.Ytllammgffeebfaa
