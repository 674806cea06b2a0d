/-
  The points of the signatures, and what is wrong with what is known of a mail.
-/
import Derived.Test.YtllammgffeebfaaVdB
namespace Go.Proofs.Ytllammgffeebfaa
open Go.Ev

theorem idx_any (p : AV → Bool) (es : List AV) : decide (idxZ (findFrom p es 0) ≥ 0) = es.any p := by
  unfold findFrom
  rw [List.drop_zero]
  induction es with
  | nil => rfl
  | cons e es ih =>
    rw [List.findIdx?_cons, List.any_cons, ← ih]
    cases p e with
    | true => simp [idxZ]
    | false =>
      simp only [Bool.false_eq_true, if_false, Bool.false_or]
      cases es.findIdx? p with
      | none => rfl
      | some j =>
        have hq : ∀ q : Nat, decide ((q : Int) ≥ 0) = true := fun q => decide_eq_true (by omega)
        exact (hq _).trans (hq _).symm

noncomputable def G3 : Env := ⟨[(25, evF Try.prog ⟨[(28, F28)], [], false, false⟩ [] Try.f25)], [], false, false⟩
theorem g3 : GOK Try.prog G3 := GOK.also g0 (inl (GOK.also g0 ok28) Try.func25 (by kernel_rfl))
noncomputable def G4 : Env := ⟨[(24, evF Try.prog G3 [] Try.f24)], [], false, false⟩
theorem g4 : GOK Try.prog G4 := GOK.also g0 (inl g3 Try.func24 (by kernel_rfl))

def sigP (es : List AV) : Int := bif es.any (isV 1) then -30 else bif es.any (isV 2) then 20 else 0
def F16 : Summ := fun _ avs k => match avs with
  | [.slv (.agg [.str, .int .i64]) es] => bif small es.length then k (.int .i64 (sigP es)) else none
  | _ => none
theorem ok16 : SumOK Try.prog 16 F16 ∧ SNat F16 := by
  refine ⟨sum0 g4 Try.func16 (by kernel_rfl) fun ρ avs k r h => ?_, fun ρ avs k => ?_⟩
  · unfold F16 at h
    split at h
    · rename_i es
      obtain ⟨hs, h⟩ := bif_some h
      refine Eq.trans (b := bif small es.length then (bif decide (idxZ (findFrom (isV 1) es 0) ≥ 0) then k (.int .i64 (-30)) else (bif small es.length then (bif decide (idxZ (findFrom (isV 2) es 0) ≥ 0) then k (.int .i64 20) else k (.int .i64 0)) else none)) else none) (by kernel_rfl) ?_
      rw [hs, idx_any, idx_any]
      unfold sigP at h
      generalize es.any (isV 1) = b1 at h ⊢
      generalize es.any (isV 2) = b2 at h ⊢
      cases b1 <;> cases b2 <;> exact h
    · cases h
  · unfold F16
    split
    · rename_i es
      generalize small es.length = c
      cases c <;> rfl
    · rfl

/-! ### valid -/
def badV (es : List AV) (i : Nat) : Bool := decide (resOf (es.getD i .unk) < 1) || decide (resOf (es.getD i .unk) > 4)
def out (n a b : Int) : Bool := decide (n < a) || decide (n > b)
def restF (c rp j : Int) : Int × Int := bif out c (-1) 1000000 then (3, -3) else bif out rp (-1000) 1000 then (3, -4) else bif out j 0 1000 then (3, -5) else (0, 0)
def vF (h c rp j : Int) (es : List AV) : Int × Int :=
  bif out h 0 5 then (3, -2) else bif decide ((es.length : Int) > 60) then (2, -1) else
  bif (findN (badV es) es.length 0).isSome then (3, (((findN (badV es) es.length 0).getD 0 : Nat) : Int)) else restF c rp j
def fault (x : Int × Int) : AV := .agg [.int .i64 x.1, .int .i64 x.2]
abbrev rcs (h : Int) (es : List AV) (c rp j : Int) (g t : Bool) : List AV := [.int .i64 h, .slv sV es, .int .i64 c, .int .i64 rp, .int .i64 j, .bool g, .bool t]

noncomputable def b13 : Code := ((Try.f13.body.map loopsOf).getD []).headD .skip
def L13 : LSumm := fun _ vs rs k => match vs, rs with
  | [.ptr 0 0, .ptr 1 0, .slv (.agg [.str, .int .i64]) es, .int .i64 n, .int .i64 i], [some (.box false [.int .i64 h, .slv (.agg [.str, .int .i64]) es', .int .i64 c, .int .i64 rp, .int .i64 j, .bool g, .bool t]), some (.box false [.int .i64 0, .int .i64 0])] =>
    bif cnt n i es.length then
      sF (badV es) es.length (fun q => k .ret [.ptr 0 0, .ptr 1 0, .slv sV es, .int .i64 n, .int .i64 (q : Nat)] [some (.box false (rcs h es' c rp j g t)), some (.box false [.int .i64 3, .int .i64 (q : Nat)])])
        (k (.exit 0) [.ptr 0 0, .ptr 1 0, .slv sV es, .int .i64 n, .int .i64 n] [some (.box false (rcs h es' c rp j g t)), some (.box false [.int .i64 0, .int .i64 0])]) i.toNat
    else none
  | _, _ => none
def l13 : Ev.Loop := ⟨{ len := 69, slots := [1, 2, 20, 21, 22], rows := [0, 1] }, L13⟩
def μ13 (vs : List AV) (_ : List (Option Row)) : Nat := match vs with
  | [_, _, _, .int _ n, .int _ i] => (n - i).toNat
  | _ => 0
theorem loop13 : LoopOK Try.prog G1 [(6, l13)] b13 l13 := by
  refine loopOK_of g1.natOK (KOK.nil (by kernel_rfl)) μ13 (fun ρ vs rs k r h => ?_) (fun ρ vs rs k => ?_)
  · change L13 ρ vs rs k = some r at h
    unfold L13 at h
    split at h
    · rename_i es n i h' es' c rp j' g t
      obtain ⟨hc, h⟩ := bif_some h
      obtain ⟨rfl, hs, j, rfl, hj⟩ := cnt_spec hc
      rw [Int.toNat_natCast] at h
      refine Eq.trans (b := bif decide ((j : Int) < es.length) then (bif inb j es.length then
          (bif decide (resOf (es.getD (j : Int).toNat .unk) < 1) then k .ret [.ptr 0 0, .ptr 1 0, .slv sV es, .int .i64 es.length, .int .i64 j] [some (.box false (rcs h' es' c rp j' g t)), some (.box false [.int .i64 3, .int .i64 j])]
           else (bif decide (resOf (es.getD (j : Int).toNat .unk) > 4) then k .ret [.ptr 0 0, .ptr 1 0, .slv sV es, .int .i64 es.length, .int .i64 j] [some (.box false (rcs h' es' c rp j' g t)), some (.box false [.int .i64 3, .int .i64 j])]
            else (bif decide (((es.length : Int) - IntKind.i64.wrap (j + 1)).toNat < ((es.length : Int) - j).toNat) then
              L13 ρ [.ptr 0 0, .ptr 1 0, .slv sV es, .int .i64 es.length, .int .i64 (IntKind.i64.wrap (j + 1))] [some (.box false (rcs h' es' c rp j' g t)), some (.box false [.int .i64 0, .int .i64 0])] k else none))) else none)
        else k (.exit 0) [.ptr 0 0, .ptr 1 0, .slv sV es, .int .i64 es.length, .int .i64 j] [some (.box false (rcs h' es' c rp j' g t)), some (.box false [.int .i64 0, .int .i64 0])]) (by kernel_rfl) ?_
      by_cases he : j = es.length
      · subst he
        exact sF_ok h hj (fun hlt => absurd hlt (Nat.lt_irrefl _))
      · have hlt : j < es.length := by omega
        rw [sF_step _ _ _ _ _ hlt] at h
        refine Eq.trans (cond_t (decide_eq_true (by omega))) (Eq.trans (cond_t (inb_true (by omega) (by omega))) ?_)
        rw [← h, cnt_dec hlt hs, Int.toNat_natCast]
        rw [show badV es j = (decide (resOf (es.getD j .unk) < 1) || decide (resOf (es.getD j .unk) > 4)) from rfl]
        cases decide (resOf (es.getD j .unk) < 1) <;> cases decide (resOf (es.getD j .unk) > 4) <;> first | rfl | exact sF_next hlt hs
    · cases h
  · change L13 ρ vs rs k = (L13 (Ex × List AV × List (Option Row)) vs rs fun e v x => some (e, v, x)).bind fun q => k q.1 q.2.1 q.2.2
    unfold L13 sF
    split
    · rename_i es n i h' es' c rp j' g t
      cases cnt n i es.length
      · rfl
      · cases (findN (badV es) es.length i.toNat).isSome <;> rfl
    · rfl

def F13 : Summ := fun _ avs k => match avs with
  | [.agg [.int .i64 h, .slv (.agg [.str, .int .i64]) es, .int .i64 c, .int .i64 rp, .int .i64 j, .bool _, .bool _]] => bif small es.length then k (fault (vF h c rp j es)) else none
  | _ => none
theorem ok13 : SumOK Try.prog 13 F13 ∧ SNat F13 := by
  refine ⟨sum1 (K := [(6, l13)]) (b := b13) (l := l13) g1 Try.func13 (by kernel_rfl) (by kernel_rfl) loop13 fun ρ avs k r h => ?_, fun ρ avs k => ?_⟩
  · unfold F13 at h
    split at h
    · rename_i h' es c rp j g t
      obtain ⟨hs, h⟩ := bif_some h
      refine Eq.trans (b := bif decide (h' < 0) then k (fault (3, -2)) else bif decide (h' > 5) then k (fault (3, -2)) else bif decide ((es.length : Int) > 60) then k (fault (2, -1)) else
        bif cnt es.length 0 es.length then (bif (findN (badV es) es.length 0).isSome then k (fault (3, ((findN (badV es) es.length 0).getD 0 : Nat))) else
          bif decide (c < -1) then k (fault (3, -3)) else bif decide (c > 1000000) then k (fault (3, -3)) else bif decide (rp < -1000) then k (fault (3, -4)) else bif decide (rp > 1000) then k (fault (3, -4)) else
          bif decide (j < 0) then k (fault (3, -5)) else bif decide (j > 1000) then k (fault (3, -5)) else k (fault (0, 0))) else none) (by kernel_rfl) ?_
      rw [cnt_zero hs]
      unfold vF restF out at h
      generalize decide (h' < 0) = a1 at h ⊢
      generalize decide (h' > 5) = a2 at h ⊢
      generalize decide ((es.length : Int) > 60) = a3 at h ⊢
      generalize (findN (badV es) es.length 0).isSome = a4 at h ⊢
      generalize decide (c < -1) = a5 at h ⊢
      generalize decide (c > 1000000) = a6 at h ⊢
      generalize decide (rp < -1000) = a7 at h ⊢
      generalize decide (rp > 1000) = a8 at h ⊢
      generalize decide (j < 0) = a9 at h ⊢
      generalize decide (j > 1000) = a10 at h ⊢
      cases a1
      · cases a2
        · cases a3
          · cases a4
            · cases a5
              · cases a6
                · cases a7
                  · cases a8
                    · cases a9
                      · cases a10 <;> exact h
                      · exact h
                    · exact h
                  · exact h
                · exact h
              · exact h
            · exact h
          · exact h
        · exact h
      · exact h
    · cases h
  · unfold F13
    split
    · rename_i h' es c rp j g t
      cases small es.length <;> rfl
    · rfl

end Go.Proofs.Ytllammgffeebfaa
