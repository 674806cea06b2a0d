/-
  What becomes of a mail: verdict.Decide.
-/
import Derived.Test.YtllammgffeebfaaVdD
namespace Go.Proofs.Ytllammgffeebfaa
open Go.Ev

def chP (n : Int) : Int := bif decide (n > 0) then -10 else bif decide (n < 0) then 10 else 0
def F17 : Summ := fun _ avs k => match avs with
  | [.int .i64 n] => k (.int .i64 (chP n))
  | _ => none
theorem ok17 : SumOK Try.prog 17 F17 ∧ SNat F17 := by
  refine ⟨sum0 g0 Try.func17 (by kernel_rfl) fun ρ avs k r h => ?_, fun ρ avs k => ?_⟩
  · unfold F17 at h
    split at h
    · rename_i n
      refine Eq.trans (b := bif decide (n > 0) then k (.int .i64 (-10)) else bif decide (n < 0) then k (.int .i64 10) else k (.int .i64 0)) (by kernel_rfl) ?_
      unfold chP at h
      generalize decide (n > 0) = b1 at h ⊢
      generalize decide (n < 0) = b2 at h ⊢
      cases b1 <;> cases b2 <;> exact h
    · cases h
  · unfold F17
    split <;> rfl

noncomputable def G7 : Env := ⟨[(17, F17), (16, F16), (15, evF Try.prog G0 [] Try.f15), (13, F13), (14, evF Try.prog G0 [] Try.f14), (20, evF Try.prog G0 [] Try.f20), (22, evF Try.prog G0 [] Try.f22), (23, evF Try.prog G0 [] Try.f23), (21, F21)], [(18, F18)], false, false⟩
theorem g7 : GOK Try.prog G7 := GOK.alsoX (GOK.also (GOK.also (GOK.also (GOK.also g1 ok13) (inl g0 Try.func15 (by kernel_rfl))) ok16) ok17) ok18

noncomputable def b7 : Code := ((Try.f7.body.map loopsOf).getD []).headD .skip
def sumN : Nat → List AV → Nat → Int → Int
  | 0, _, _, s => s
  | n + 1, es, i, s => sumN n es (i + 1) (IntKind.i64.wrap (s + resOf (es.getD i .unk)))
def L7 : LSumm := fun _ vs rs k => match vs, rs with
  | [.ptr 0 0, .ptr 3 0, .own 278, .int .i64 s, .own 278, .int .i64 n, .int .i64 i], [some (.box false [.int .i64 h, .slv (.agg [.str, .int .i64]) vs, .int .i64 c, .int .i64 rp, .int .i64 j, .bool g, .bool t]), some (.box false [.int .i64 0, .int .i64 0]), some (.arr false (.agg [.str, .int .i64]) 40 es sp)] =>
    bif cnt n i es.length then
      k (.exit 0) [.ptr 0 0, .ptr 3 0, .own 278, .int .i64 (sumN (es.length - i.toNat) es i.toNat s), .own 278, .int .i64 n, .int .i64 n] [some (.box false (rcs h vs c rp j g t)), some (.box false [.int .i64 0, .int .i64 0]), some (.arr false sR 40 es sp)]
    else none
  | _, _ => none
def l7 : Ev.Loop := ⟨{ len := 92, slots := [1, 4, 6, 7, 38, 39, 40], rows := [0, 3, 278] }, L7⟩
def μ7 (vs : List AV) (_ : List (Option Row)) : Nat := match vs with
  | [_, _, _, _, _, .int _ n, .int _ i] => (n - i).toNat
  | _ => 0
theorem loop7 : LoopOK Try.prog G7 [(7, l7)] b7 l7 := by
  refine loopOK_of g7.natOK (KOK.nil (by kernel_rfl)) μ7 (fun ρ vs rs k r h => ?_) (fun ρ vs rs k => ?_)
  · change L7 ρ vs rs k = some r at h
    unfold L7 at h
    split at h
    · rename_i s n i h' ws c rp j' g t es sp
      obtain ⟨hc, hk⟩ := bif_some h
      clear h
      obtain ⟨rfl, hs, j, rfl, hj⟩ := cnt_spec hc
      rw [Int.toNat_natCast] at hk
      refine Eq.trans (b := bif decide ((j : Int) < es.length) then (bif inb j es.length then (bif decide ((j : Int).toNat < es.length) then
          (bif decide (((es.length : Int) - IntKind.i64.wrap (j + 1)).toNat < ((es.length : Int) - j).toNat) then
              L7 ρ [.ptr 0 0, .ptr 3 0, .own 278, .int .i64 (IntKind.i64.wrap (s + resOf (es.getD (j : Int).toNat .unk))), .own 278, .int .i64 es.length, .int .i64 (IntKind.i64.wrap (j + 1))] [some (.box false (rcs h' ws c rp j' g t)), some (.box false [.int .i64 0, .int .i64 0]), some (.arr false sR 40 es sp)] k else none) else none) else none)
        else k (.exit 0) [.ptr 0 0, .ptr 3 0, .own 278, .int .i64 s, .own 278, .int .i64 es.length, .int .i64 j] [some (.box false (rcs h' ws c rp j' g t)), some (.box false [.int .i64 0, .int .i64 0]), some (.arr false sR 40 es sp)]) (by kernel_rfl) ?_
      by_cases hlt : j < es.length
      · rw [Int.toNat_natCast, decide_eq_true (by omega : (j : Int) < es.length), inb_true (by omega) (by omega), decide_eq_true hlt, cnt_dec hlt hs]
        rw [show es.length - j = (es.length - (j + 1)) + 1 from by omega] at hk
        simp only [cond_true]
        refine Eq.trans (cond_t (cnt_next hlt hs).1) ?_
        rw [(cnt_next hlt hs).2]
        exact hk
      · have hje : j = es.length := by omega
        subst hje
        rw [decide_eq_false (by omega : ¬ ((es.length : Int) < es.length))]
        rw [show es.length - es.length = 0 from by omega] at hk
        exact hk
    · cases h
  · change L7 ρ vs rs k = (L7 (Ex × List AV × List (Option Row)) vs rs fun e v x => some (e, v, x)).bind fun q => k q.1 q.2.1 q.2.2
    unfold L7
    split
    · rename_i s n i h' ws c rp j' g t es sp
      cases cnt n i es.length <;> rfl
    · rfl

/-! ### Decide -/
def mkR (a : List UInt8) (n : Int) : AV := .agg [.str a, .int .i64 n]
def hostP (h : Int) : Int := ([AV.int .i64 5, .int .i64 0, .int .i64 40, .int .i64 20, .int .i64 5, .int .i64 10].getD h.toNat .unk).toInt
def aspL (a b c d e : Int) : List AV := [mkR [104, 111, 115, 116] a, mkR [115, 105, 103, 110, 97, 116, 117, 114, 101] b, mkR [99, 104, 97, 105, 110] c, mkR [114, 101, 112, 117, 116, 97, 116, 105, 111, 110] d, mkR [99, 111, 110, 116, 101, 110, 116] e]
def rateR : AV := mkR [114, 97, 116, 101] 0
def greyR : AV := mkR [103, 114, 101, 121, 108, 105, 115, 116] 0
def repP (rp : Int) : Int := (-rp).tdiv 25
def junkP (j : Int) : Int := (j - 500).tdiv 10
def total (h : Int) (es : List AV) (c rp j : Int) : Int := hostP h + sigP es + chP c + repP rp + junkP j
def reasons (h : Int) (es : List AV) (c rp j : Int) (g t : Bool) : List AV :=
  (aspL (hostP h) (sigP es) (chP c) (repP rp) (junkP j)).filter (fun x => !isZ x) ++ ((bif t then [] else [rateR]) ++ (bif g then [] else [greyR]))
def decN (s : Int) (g t : Bool) : Int := bif decide (s ≥ 80) then 4 else bif !t || (!g && decide (s > 0)) then 3 else bif decide (s ≥ 40) then 2 else 1

theorem vF_ok {h c rp j : Int} {es : List AV} (hz : (vF h c rp j es).1 = 0) : 0 ≤ h ∧ h ≤ 5 ∧ es.length ≤ 60 ∧ findN (badV es) es.length 0 = none ∧ -1 ≤ c ∧ c ≤ 1000000 ∧ -1000 ≤ rp ∧ rp ≤ 1000 ∧ 0 ≤ j ∧ j ≤ 1000 ∧ vF h c rp j es = (0, 0) := by
  have hz' := hz
  have ho : ∀ n a b, out n a b = false → a ≤ n ∧ n ≤ b := fun n a b h => by
    simp only [out, Bool.or_eq_false_iff, decide_eq_false_iff_not] at h
    omega
  unfold vF restF at hz
  cases h1 : out h 0 5 <;> simp only [h1, cond_true, cond_false] at hz
  · cases h2 : decide ((es.length : Int) > 60) <;> simp only [h2, cond_true, cond_false] at hz
    · cases h3 : findN (badV es) es.length 0 <;> simp only [h3, Option.isSome_none, Option.isSome_some, cond_true, cond_false] at hz
      · cases h4 : out c (-1) 1000000 <;> simp only [h4, cond_true, cond_false] at hz
        · cases h5 : out rp (-1000) 1000 <;> simp only [h5, cond_true, cond_false] at hz
          · cases h6 : out j 0 1000 <;> simp only [h6, cond_true, cond_false] at hz
            · have := ho _ _ _ h1
              have := ho _ _ _ h4
              have := ho _ _ _ h5
              have := ho _ _ _ h6
              simp at h2
              refine ⟨by omega, by omega, by omega, rfl, by omega, by omega, by omega, by omega, by omega, by omega, ?_⟩
              unfold vF restF
              rw [h1, decide_eq_false (by omega), h3, h4, h5, h6]
              rfl
            · cases hz
          · cases hz
        · cases hz
      · cases hz
    · cases hz
  · cases hz
theorem hostP_bd (h : Int) : 0 ≤ hostP h ∧ hostP h ≤ 40 := by
  unfold hostP
  match h.toNat with
  | 0 => decide
  | 1 => decide
  | 2 => decide
  | 3 => decide
  | 4 => decide
  | 5 => decide
  | n + 6 => exact ⟨Int.le_refl 0, (by decide : (0 : Int) ≤ 40)⟩
theorem sigP_bd (es : List AV) : -30 ≤ sigP es ∧ sigP es ≤ 20 := by
  unfold sigP
  cases es.any (isV 1) <;> cases es.any (isV 2) <;> decide
theorem chP_bd (c : Int) : -10 ≤ chP c ∧ chP c ≤ 10 := by
  unfold chP
  cases decide (c > 0) <;> cases decide (c < 0) <;> decide
theorem repP_bd (rp : Int) (h1 : -1000 ≤ rp) (h2 : rp ≤ 1000) : -40 ≤ repP rp ∧ repP rp ≤ 40 := by
  unfold repP
  rcases tdiv_cases (-rp) 25 with ⟨h, e⟩ | ⟨h, e⟩ <;> rw [e] <;> omega
theorem junkP_bd (j : Int) (h1 : 0 ≤ j) (h2 : j ≤ 1000) : -50 ≤ junkP j ∧ junkP j ≤ 50 := by
  unfold junkP
  rcases tdiv_cases (j - 500) 10 with ⟨h, e⟩ | ⟨h, e⟩ <;> rw [e] <;> omega

/-- What is reckoned, as it is reckoned. -/
def AA (h : Int) (es : List AV) (c rp j : Int) : List AV := aspL (hostP h) (sigP es) (chP c) (IntKind.i64.wrap ((IntKind.i64.wrap (0 - rp)).tdiv 25)) (IntKind.i64.wrap ((IntKind.i64.wrap (j - 500)).tdiv 10))
def SS (h : Int) (es : List AV) (c rp j : Int) : Int := IntKind.i64.wrap (IntKind.i64.wrap (IntKind.i64.wrap (IntKind.i64.wrap (IntKind.i64.wrap (0 + hostP h) + sigP es) + chP c) + IntKind.i64.wrap ((IntKind.i64.wrap (0 - rp)).tdiv 25)) + IntKind.i64.wrap ((IntKind.i64.wrap (j - 500)).tdiv 10))

def F7 : Summ := fun _ avs k => match avs with
  | [.agg [.int .i64 h, .slv (.agg [.str, .int .i64]) es, .int .i64 c, .int .i64 rp, .int .i64 j, .bool g, .bool t]] =>
    bif small es.length then
      k (.tup [.int .i64 (bif (vF h c rp j es).1 != 0 then 0 else decN (total h es c rp j) g t), .slv sR (bif (vF h c rp j es).1 != 0 then [] else reasons h es c rp j g t), fault (vF h c rp j es)])
    else none
  | _ => none
theorem ok7 : SumOK Try.prog 7 F7 ∧ SNat F7 := by
  refine ⟨sum1 (K := [(7, l7)]) (b := b7) (l := l7) g7 Try.func7 (by kernel_rfl) (by kernel_rfl) loop7 fun ρ avs k r h => ?_, fun ρ avs k => ?_⟩
  · unfold F7 at h
    split at h
    · rename_i h' es c rp j g t
      obtain ⟨hs, hk⟩ := bif_some h
      clear h
      have hA : (vF h' c rp j es).1 = 0 → AA h' es c rp j = aspL (hostP h') (sigP es) (chP c) (repP rp) (junkP j) ∧ SS h' es c rp j = total h' es c rp j ∧ inb h' 6 = true ∧ vF h' c rp j es = (0, 0) := fun hz => by
        obtain ⟨a1, a2, a3, _, a5, a6, a7, a8, a9, a10, a11⟩ := vF_ok hz
        have b1 := repP_bd rp a7 a8
        have b2 := junkP_bd j a9 a10
        have b3 := hostP_bd h'
        have b4 := sigP_bd es
        have b5 := chP_bd c
        have e1 : IntKind.i64.wrap ((IntKind.i64.wrap (0 - rp)).tdiv 25) = repP rp := by
          rw [wrap_mid (0 - rp) (by omega) (by omega), show (0 - rp) = -rp from by omega]
          exact wrap_mid _ (by unfold repP at b1; omega) (by unfold repP at b1; omega)
        have e2 : IntKind.i64.wrap ((IntKind.i64.wrap (j - 500)).tdiv 10) = junkP j := by
          rw [wrap_mid (j - 500) (by omega) (by omega)]
          exact wrap_mid _ (by unfold junkP at b2; omega) (by unfold junkP at b2; omega)
        refine ⟨by unfold AA; rw [e1, e2], ?_, inb_true a1 (by omega), a11⟩
        unfold SS total
        rw [e1, e2, wrap_mid (0 + hostP h') (by omega) (by omega), wrap_mid (0 + hostP h' + sigP es) (by omega) (by omega), wrap_mid (0 + hostP h' + sigP es + chP c) (by omega) (by omega), wrap_mid (0 + hostP h' + sigP es + chP c + repP rp) (by omega) (by omega), wrap_mid (0 + hostP h' + sigP es + chP c + repP rp + junkP j) (by omega) (by omega)]
        omega
      have hroom : ∀ n, n ≤ 10 → roomB n 24 = true := fun n hn => by simp [roomB]; omega
      have hfl : ((aspL (hostP h') (sigP es) (chP c) (repP rp) (junkP j)).filter (fun x => !isZ x)).length ≤ 5 := List.length_filter_le _ _
      unfold reasons decN at hk
      cases t <;> cases g
      · refine Eq.trans (b := bif small es.length then (bif (vF h' c rp j es).1 != 0 then k (.tup [.int .i64 0, .slv sR [], fault (vF h' c rp j es)]) else bif inb h' 6 then (bif small es.length then (bif roomB (((AA h' es c rp j).filter (fun x => !isZ x)).length + 1) 24 then (bif roomB (((AA h' es c rp j).filter (fun x => !isZ x) ++ [rateR]).length + 1) 24 then (bif decide (SS h' es c rp j ≥ 80) then k (.tup [.int .i64 4, .slv sR ((AA h' es c rp j).filter (fun x => !isZ x) ++ [rateR] ++ [greyR]), fault (0, 0)]) else k (.tup [.int .i64 3, .slv sR ((AA h' es c rp j).filter (fun x => !isZ x) ++ [rateR] ++ [greyR]), fault (0, 0)])) else none) else none) else none) else none) else none) (by kernel_rfl) ?_
        rw [hs]
        cases hv : (vF h' c rp j es).1 != 0
        · obtain ⟨e1, e2, e3, e4⟩ := hA (by simpa using hv)
          rw [hv] at hk
          rw [e1, e2, e3, hroom _ (by omega), hroom _ (by rw [List.length_append]; simp only [List.length_singleton]; omega), List.append_assoc]
          rw [e4] at hk
          generalize decide (total h' es c rp j ≥ 80) = d1 at hk ⊢
          cases d1 <;> exact hk
        · rw [hv] at hk; exact hk
      · refine Eq.trans (b := bif small es.length then (bif (vF h' c rp j es).1 != 0 then k (.tup [.int .i64 0, .slv sR [], fault (vF h' c rp j es)]) else bif inb h' 6 then (bif small es.length then (bif roomB (((AA h' es c rp j).filter (fun x => !isZ x)).length + 1) 24 then (bif decide (SS h' es c rp j ≥ 80) then k (.tup [.int .i64 4, .slv sR ((AA h' es c rp j).filter (fun x => !isZ x) ++ [rateR]), fault (0, 0)]) else k (.tup [.int .i64 3, .slv sR ((AA h' es c rp j).filter (fun x => !isZ x) ++ [rateR]), fault (0, 0)])) else none) else none) else none) else none) (by kernel_rfl) ?_
        rw [hs]
        cases hv : (vF h' c rp j es).1 != 0
        · obtain ⟨e1, e2, e3, e4⟩ := hA (by simpa using hv)
          rw [hv] at hk
          rw [e1, e2, e3, hroom _ (by omega)]
          rw [e4] at hk
          generalize decide (total h' es c rp j ≥ 80) = d1 at hk ⊢
          cases d1 <;> exact hk
        · rw [hv] at hk; exact hk
      · refine Eq.trans (b := bif small es.length then (bif (vF h' c rp j es).1 != 0 then k (.tup [.int .i64 0, .slv sR [], fault (vF h' c rp j es)]) else bif inb h' 6 then (bif small es.length then (bif roomB (((AA h' es c rp j).filter (fun x => !isZ x)).length + 1) 24 then (bif decide (SS h' es c rp j ≥ 80) then k (.tup [.int .i64 4, .slv sR ((AA h' es c rp j).filter (fun x => !isZ x) ++ [greyR]), fault (0, 0)]) else bif decide (SS h' es c rp j > 0) then k (.tup [.int .i64 3, .slv sR ((AA h' es c rp j).filter (fun x => !isZ x) ++ [greyR]), fault (0, 0)]) else bif decide (SS h' es c rp j ≥ 40) then k (.tup [.int .i64 2, .slv sR ((AA h' es c rp j).filter (fun x => !isZ x) ++ [greyR]), fault (0, 0)]) else k (.tup [.int .i64 1, .slv sR ((AA h' es c rp j).filter (fun x => !isZ x) ++ [greyR]), fault (0, 0)])) else none) else none) else none) else none) (by kernel_rfl) ?_
        rw [hs]
        cases hv : (vF h' c rp j es).1 != 0
        · obtain ⟨e1, e2, e3, e4⟩ := hA (by simpa using hv)
          rw [hv] at hk
          rw [e1, e2, e3, hroom _ (by omega)]
          rw [e4] at hk
          generalize decide (total h' es c rp j ≥ 80) = d1 at hk ⊢
          generalize decide (total h' es c rp j > 0) = d2 at hk ⊢
          generalize decide (total h' es c rp j ≥ 40) = d3 at hk ⊢
          cases d1 <;> cases d2 <;> cases d3 <;> exact hk
        · rw [hv] at hk; exact hk
      · refine Eq.trans (b := bif small es.length then (bif (vF h' c rp j es).1 != 0 then k (.tup [.int .i64 0, .slv sR [], fault (vF h' c rp j es)]) else bif inb h' 6 then (bif small es.length then (bif decide (SS h' es c rp j ≥ 80) then k (.tup [.int .i64 4, .slv sR ((AA h' es c rp j).filter (fun x => !isZ x)), fault (0, 0)]) else bif decide (SS h' es c rp j ≥ 40) then k (.tup [.int .i64 2, .slv sR ((AA h' es c rp j).filter (fun x => !isZ x)), fault (0, 0)]) else k (.tup [.int .i64 1, .slv sR ((AA h' es c rp j).filter (fun x => !isZ x)), fault (0, 0)])) else none) else none) else none) (by kernel_rfl) ?_
        rw [hs]
        cases hv : (vF h' c rp j es).1 != 0
        · obtain ⟨e1, e2, e3, e4⟩ := hA (by simpa using hv)
          rw [hv] at hk
          rw [e1, e2, e3]
          rw [e4] at hk
          simp only [cond_true, List.append_nil] at hk
          generalize decide (total h' es c rp j ≥ 80) = d1 at hk ⊢
          generalize decide (total h' es c rp j ≥ 40) = d3 at hk ⊢
          cases d1 <;> cases d3 <;> exact hk
        · rw [hv] at hk; exact hk
    · cases h
  · unfold F7
    split
    · rename_i h' es c rp j g t
      cases small es.length <;> rfl
    · rfl

end Go.Proofs.Ytllammgffeebfaa
