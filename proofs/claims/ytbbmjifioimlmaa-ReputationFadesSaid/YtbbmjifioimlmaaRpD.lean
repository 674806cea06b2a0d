/-
  Where a sender is in a list that is in order; find, Score, Note and what they are held against.
-/
import Derived.Test.YtbbmjifioimlmaaRpC
namespace Go.Proofs.Ytbbmjifioimlmaa
open Go.Ev

theorem send_ok {es : List AV} (h : (sendF es).1 = 0) : es.length ≤ 300 ∧ ∀ i, i < es.length → codeN es es i = 0 := by
  unfold sendF at h
  by_cases hl : (es.length : Int) > 300
  · rw [decide_eq_true hl] at h; cases h
  · rw [decide_eq_false hl, cond_false] at h
    refine ⟨by omega, fun i hi => ?_⟩
    cases hb : badS es with
    | none =>
      have := findN_none hb i (Nat.zero_le _) hi
      simpa using this
    | some q =>
      obtain ⟨_, _, h3, _⟩ := findN_some hb
      rw [hb] at h
      simp only [Option.isSome_some, cond_true, Option.getD_some] at h
      rw [h] at h3
      cases h3
theorem code_ok {es : List AV} {x : AV} {i : Nat} (h : codeX es x i = 0) : nmB (nmOf x) = true ∧ inR (gOf x) 0 1000000 = true ∧ inR (bOf x) 0 1000000 = true ∧ inR (dOf x) (-795365) 795365 = true ∧ ordN es x i = false := by
  unfold codeX codeB at h
  cases h1 : nmB (nmOf x) <;> cases h2 : inR (gOf x) 0 1000000 <;> cases h3 : inR (bOf x) 0 1000000 <;> cases h4 : inR (dOf x) (-795365) 795365 <;> cases h5 : ordN es x i <;> simp [h1, h2, h3, h4, h5] at h ⊢
/-- In order, and every sender is right. -/
structure Ok (es : List AV) : Prop where
  len : es.length ≤ 300
  nm : ∀ i, i < es.length → nmB (nmOf (es.getD i .unk)) = true
  g : ∀ i, i < es.length → 0 ≤ gOf (es.getD i .unk) ∧ gOf (es.getD i .unk) ≤ 1000000
  b : ∀ i, i < es.length → 0 ≤ bOf (es.getD i .unk) ∧ bOf (es.getD i .unk) ≤ 1000000
  d : ∀ i, i < es.length → -795365 ≤ dOf (es.getD i .unk) ∧ dOf (es.getD i .unk) ≤ 795365
  srt : ∀ i j, i < j → j < es.length → blt (nmOf (es.getD i .unk)) (nmOf (es.getD j .unk)) = true
theorem Ok.of {es : List AV} (h : (sendF es).1 = 0) : Ok es := by
  obtain ⟨hl, hc⟩ := send_ok h
  have hc' := fun i hi => code_ok (hc i hi)
  have step : ∀ j, 0 < j → j < es.length → blt (nmOf (es.getD (j - 1) .unk)) (nmOf (es.getD j .unk)) = true := fun j hj hlt => by
    have h5 := (hc' j hlt).2.2.2.2
    unfold ordN at h5
    rw [decide_eq_true (by omega), Bool.true_and, Bool.or_eq_false_iff] at h5
    cases hb : blt (nmOf (es.getD (j - 1) .unk)) (nmOf (es.getD j .unk))
    · have := blt_total hb h5.1
      rw [this] at h5
      simp at h5
    · rfl
  refine ⟨hl, fun i hi => (hc' i hi).1, fun i hi => inR_spec (hc' i hi).2.1, fun i hi => inR_spec (hc' i hi).2.2.1, fun i hi => inR_spec (hc' i hi).2.2.2.1, fun i j hij hj => ?_⟩
  obtain ⟨d, rfl⟩ : ∃ d, j = i + 1 + d := ⟨j - (i + 1), by omega⟩
  clear hij
  induction d with
  | zero => have := step (i + 1) (by omega) hj; simpa using this
  | succ d ih =>
    have h1 := ih (by omega)
    have h2 := step (i + 1 + (d + 1)) (by omega) hj
    rw [show i + 1 + (d + 1) - 1 = i + 1 + d from by omega] at h2
    exact blt_trans h1 h2
def posS (es : List AV) (s : List UInt8) : Nat := (findN (fun i => !ltN s es i) es.length 0).getD es.length
theorem ltN_blt (s : List UInt8) (es : List AV) (i : Nat) : ltN s es i = blt (nmOf (es.getD i .unk)) s := cmpS_neg _ _
theorem pos_spec {es : List AV} (h : Ok es) (s : List UInt8) : posS es s ≤ es.length ∧ (∀ a, a < posS es s → ltN s es a = true) ∧ ∀ a, posS es s ≤ a → a < es.length → ltN s es a = false := by
  unfold posS
  cases hf : findN (fun i => !ltN s es i) es.length 0 with
  | none =>
    refine ⟨Nat.le_refl _, fun a ha => ?_, fun a h1 h2 => ?_⟩
    · have := findN_none hf a (Nat.zero_le _) ha; simpa using this
    · simp at h1; omega
  | some q =>
    obtain ⟨_, h2, h3, h4⟩ := findN_some hf
    simp only [Option.getD_some]
    refine ⟨by omega, fun a ha => by have := h4 a (Nat.zero_le _) ha; simpa using this, fun a h5 h6 => ?_⟩
    have h3' : blt (nmOf (es.getD q .unk)) s = false := by rw [← ltN_blt]; simpa using h3
    rcases Nat.eq_or_lt_of_le h5 with rfl | h7
    · rw [ltN_blt]; exact h3'
    · rw [ltN_blt]
      cases hb : blt (nmOf (es.getD a .unk)) s
      · rfl
      · have := blt_trans (h.srt q a h7 h6) hb; rw [h3'] at this; cases this
theorem at_eq {es : List AV} (h : Ok es) (s : List UInt8) : at34 s es = posS es s := by
  obtain ⟨h1, h2, h3⟩ := pos_spec h s
  exact bs_eq h2 (m := es.length) h3 es.length 0 es.length (Nat.zero_le _) h1 (Nat.le_refl _) (by omega)
theorem find_pos {es : List AV} (h : Ok es) {s : List UInt8} {q : Nat} (hf : findS s es = some q) : posS es s = q ∧ q < es.length ∧ nmOf (es.getD q .unk) = s := by
  obtain ⟨_, h2, h3, _⟩ := findN_some hf
  have h3 : nmOf (es.getD q .unk) = s := by simpa [isN] using h3
  refine ⟨?_, h2, h3⟩
  obtain ⟨p1, p2, p3⟩ := pos_spec h s
  rcases Nat.lt_trichotomy (posS es s) q with h4 | h4 | h4
  · have a1 := p3 _ (Nat.le_refl _) (by omega)
    have a2 := h.srt _ q h4 h2
    rw [ltN_blt] at a1
    rw [h3, a1] at a2
    cases a2
  · exact h4
  · have a1 := p2 q h4
    rw [ltN_blt, h3, blt_irrefl] at a1
    cases a1
theorem is_eq {es : List AV} (h : Ok es) (s : List UInt8) : is34 s es = (findS s es).isSome := by
  unfold is34
  rw [at_eq h]
  cases hf : findS s es with
  | some q =>
    obtain ⟨h1, h2, h3⟩ := find_pos h hf
    rw [h1, decide_eq_true h2, h3]
    simp
  | none =>
    by_cases hlt : posS es s < es.length
    · have := findN_none hf _ (Nat.zero_le _) hlt
      unfold isN at this
      rw [this, Bool.and_false]
      rfl
    · rw [decide_eq_false hlt]; rfl

/-! find -/
def dayF (es : List AV) (s : List UInt8) (day : Int) : Int × Int := match findS s es with
  | some q => bif decide (dOf (es.getD q .unk) > day) then (19, (q : Int)) else (0, 0)
  | none => (0, 0)
def findF (es : List AV) (s : List UInt8) (now : Int) : Int × Int :=
  bif (sendF es).1 != 0 then sendF es else bif !nmB s then (10, -3) else bif !tmB now then (3, -2) else dayF es s (now / 86400)
def F20 : List AV → Tr AV
  | [.slv (.agg [.str, .int .i64, .int .i64, .int .i64]) es, .str s, .int .i64 now] =>
    .gd (small es.length) (.br ((findF es s now).1 != 0) (.leaf (.tup [.int .i64 0, .bool false, fault (findF es s now)])) (.leaf (.tup [.int .i64 (posS es s : Nat), .bool (findS s es).isSome, fault (0, 0)])))
  | _ => .no
noncomputable def G20 : Env := { G1 with pure := (34, ofT F34) :: (25, F25) :: (9, ofT F9) :: G1.pure }
theorem g20 : GOK Try.prog G20 := GOK.also (GOK.also (GOK.also g1 ok9) ok25) ok34
theorem ok20 : SumOK Try.prog 20 (ofT F20) ∧ SNat (ofT F20) := by
  refine fn0 g20 Try.func20 (by kernel_rfl) fun ρ avs k r h => ?_
  unfold F20 at h
  split at h
  · rename_i es s now
    obtain ⟨hc, hk⟩ := gd_some h
    refine Eq.trans (b := bif small es.length then bif (sendF es).fst != (0 : Int) then k (AV.tup [AV.int IntKind.i64 (0 : Int), AV.bool false, AV.agg [AV.int IntKind.i64 (sendF es).fst, AV.int IntKind.i64 (sendF es).snd]]) else bif !nmB s then k (AV.tup [AV.int IntKind.i64 (0 : Int), AV.bool false, AV.agg [AV.int IntKind.i64 (10 : Int), AV.int IntKind.i64 (-3 : Int)]]) else bif !tmB now then k (AV.tup [AV.int IntKind.i64 (0 : Int), AV.bool false, AV.agg [AV.int IntKind.i64 (3 : Int), AV.int IntKind.i64 (-2 : Int)]]) else bif decide (es.length ≤ (1000000 : Nat)) then bif is34 s es then bif inb (↑(at34 s es) : Int) es.length then bif tmB now then bif decide ((dOf (es.getD (at34 s es) AV.unk)) > now / (86400 : Int)) then k (AV.tup [AV.int IntKind.i64 (0 : Int), AV.bool false, AV.agg [AV.int IntKind.i64 (19 : Int), AV.int IntKind.i64 (↑(at34 s es) : Int)]]) else k (AV.tup [AV.int IntKind.i64 (↑(at34 s es) : Int), AV.bool (is34 s es), AV.agg [AV.int IntKind.i64 (0 : Int), AV.int IntKind.i64 (0 : Int)]]) else none else none else k (AV.tup [AV.int IntKind.i64 (↑(at34 s es) : Int), AV.bool (is34 s es), AV.agg [AV.int IntKind.i64 (0 : Int), AV.int IntKind.i64 (0 : Int)]]) else none else none) (by kernel_rfl) ?_
    rw [← hk, hc]
    cases hv : (sendF es).1 != 0
    · have O : Ok es := Ok.of (by simpa using hv)
      have hl := O.len
      cases h1 : nmB s
      · have hF : findF es s now = (10, -3) := by unfold findF; rw [hv, h1]; rfl
        rw [hF]; rfl
      · cases h2 : tmB now
        · have hF : findF es s now = (3, -2) := by unfold findF; rw [hv, h1, h2]; rfl
          rw [hF]; rfl
        · have hF : findF es s now = dayF es s (now / 86400) := by unfold findF; rw [hv, h1, h2]; rfl
          rw [hF, at_eq O, is_eq O, decide_eq_true (by omega : es.length ≤ 1000000)]
          unfold dayF
          cases hf : findS s es with
          | none => rfl
          | some q =>
            obtain ⟨e1, e2, e3⟩ := find_pos O hf
            rw [e1, inb_true (by omega) (by omega)]
            simp only [Option.isSome_some, cond_true, cond_false, Bool.not_true]
            cases decide (dOf (es.getD q .unk) > now / 86400) <;> rfl
    · have hF : findF es s now = sendF es := by unfold findF; rw [hv]; rfl
      rw [hF]
      simp only [cond_true]
      show _ = cond ((sendF es).1 != 0) _ _
      rw [hv]
      rfl
  · cases h
/-! SenderFault -/
def F11 : List AV → Tr AV
  | [.slv (.agg [.str, .int .i64, .int .i64, .int .i64]) es, .str s, .int .i64 now] => .gd (small es.length) (.leaf (fault (findF es s now)))
  | _ => .no
noncomputable def G11 : Env := { G1 with pure := (30, evF Try.prog { pure := [(19, F19)] } [] Try.f30) :: (31, ofT F31) :: (12, ofT F12) :: (10, ofT F9) :: G1.pure }
theorem g11 : GOK Try.prog G11 := GOK.also (GOK.also (GOK.also (GOK.also g1 ok10) ok12) ok31) (inl (GOK.also g0 ok19) Try.func30 (by kernel_rfl))
theorem ok11 : SumOK Try.prog 11 (ofT F11) ∧ SNat (ofT F11) := by
  refine fn0 g11 Try.func11 (by kernel_rfl) fun ρ avs k r h => ?_
  unfold F11 at h
  split at h
  · rename_i es s now
    obtain ⟨hc, hk⟩ := gd_some h
    refine Eq.trans (b := bif small es.length then bif (sendF es).fst != (0 : Int) then k (AV.agg [AV.int IntKind.i64 (sendF es).fst, AV.int IntKind.i64 (sendF es).snd]) else bif !inR (↑s.length : Int) (1 : Int) (4000 : Int) then k (AV.agg [AV.int IntKind.i64 (10 : Int), AV.int IntKind.i64 (-3 : Int)]) else bif !inR now (-68719476736 : Int) (68719476736 : Int) then k (AV.agg [AV.int IntKind.i64 (3 : Int), AV.int IntKind.i64 (-2 : Int)]) else bif small es.length then bif decide (idxZ (findS s es) ≥ (0 : Int)) then bif inb (idxZ (findS s es)) es.length then bif tmB now then bif decide ((dOf (es.getD (idxZ (findS s es)).toNat AV.unk)) > now / (86400 : Int)) then k (AV.agg [AV.int IntKind.i64 (19 : Int), AV.int IntKind.i64 (idxZ (findS s es))]) else k (AV.agg [AV.int IntKind.i64 (0 : Int), AV.int IntKind.i64 (0 : Int)]) else none else none else k (AV.agg [AV.int IntKind.i64 (0 : Int), AV.int IntKind.i64 (0 : Int)]) else none else none) (by kernel_rfl) ?_
    rw [← hk, hc, show inR (s.length : Int) 1 4000 = nmB s from rfl, show inR now (-68719476736) 68719476736 = tmB now from rfl]
    cases hv : (sendF es).1 != 0
    · cases h1 : nmB s
      · have hF : findF es s now = (10, -3) := by unfold findF; rw [hv, h1]; rfl
        rw [hF]; rfl
      · cases h2 : tmB now
        · have hF : findF es s now = (3, -2) := by unfold findF; rw [hv, h1, h2]; rfl
          rw [hF]; rfl
        · have hF : findF es s now = dayF es s (now / 86400) := by unfold findF; rw [hv, h1, h2]; rfl
          rw [hF]
          unfold dayF
          cases hf : findS s es with
          | none => rfl
          | some q =>
            obtain ⟨_, q1, _, _⟩ := findN_some hf
            simp only [idxZ, Int.toNat_natCast, cond_true, cond_false, Bool.not_true]
            rw [inb_true (by omega) (by omega)]
            refine Eq.trans (cond_t (decide_eq_true (by omega))) ?_
            simp only [cond_true]
            by_cases hd : dOf (es.getD q .unk) > now / 86400
            · rw [decide_eq_true hd]; exact cond_t (decide_eq_true hd)
            · rw [decide_eq_false hd]; exact cond_f (decide_eq_false hd)
    · have hF : findF es s now = sendF es := by unfold findF; rw [hv]; rfl
      rw [hF]
      rfl
  · cases h
theorem findF_ok {es : List AV} {s : List UInt8} {now : Int} (h : (findF es s now).1 = 0) : Ok es ∧ nmB s = true ∧ tmB now = true ∧ ∀ q, findS s es = some q → dOf (es.getD q .unk) ≤ now / 86400 := by
  unfold findF at h
  cases hv : (sendF es).1 != 0
  · rw [hv] at h
    cases h1 : nmB s
    · rw [h1] at h; cases h
    · cases h2 : tmB now
      · rw [h1, h2] at h; cases h
      · refine ⟨Ok.of (by simpa using hv), rfl, rfl, fun q hq => ?_⟩
        rw [h1, h2] at h
        simp only [Bool.not_true, cond_false, dayF, hq] at h
        cases hd : decide (dOf (es.getD q .unk) > now / 86400)
        · have := of_decide_eq_false hd; omega
        · rw [hd] at h; cases h
  · rw [hv] at h
    simp only [cond_true] at h
    rw [h] at hv
    cases hv
theorem day_bd {now : Int} (h : tmB now = true) : -795365 ≤ now / 86400 ∧ now / 86400 ≤ 795365 := by
  obtain ⟨h1, h2⟩ := inR_spec h
  omega
/-! Score -/
def sc (g b : Int) : Int := (1000 * (g - b)).tdiv (g + b + 1000)
theorem tdiv_bd {a b : Int} (h0 : -1000000000 ≤ a) (h1 : a ≤ 1000000000) (hb : 0 < b) : -1000000000 ≤ a.tdiv b ∧ a.tdiv b ≤ 1000000000 := by
  rcases tdiv_cases a b with ⟨h, e⟩ | ⟨h, e⟩ <;> rw [e]
  · have := Int.ediv_le_self b h
    have := Int.ediv_nonneg h (Int.le_of_lt hb)
    omega
  · have := Int.ediv_le_self b (by omega : 0 ≤ -a)
    have := Int.ediv_nonneg (by omega : 0 ≤ -a) (Int.le_of_lt hb)
    omega
theorem scW {g b : Int} (g0 : 0 ≤ g) (g1 : g ≤ 1000000) (b0 : 0 ≤ b) (b1 : b ≤ 1000000) : IntKind.i64.wrap ((IntKind.i64.wrap (1000 * IntKind.i64.wrap (g - b))).tdiv (IntKind.i64.wrap (IntKind.i64.wrap (g + b) + 1000))) = sc g b ∧ decide (IntKind.i64.wrap (IntKind.i64.wrap (g + b) + 1000) = 0) = false := by
  rw [wrap_mid (g - b) (by omega) (by omega), wrap_mid (g + b) (by omega) (by omega), wrap_mid (1000 * (g - b)) (by omega) (by omega), wrap_mid (g + b + 1000) (by omega) (by omega)]
  obtain ⟨h1, h2⟩ := tdiv_bd (a := 1000 * (g - b)) (b := g + b + 1000) (by omega) (by omega) (by omega)
  exact ⟨wrap_mid _ (by omega) (by omega), decide_eq_false (by omega)⟩
theorem scR {g b : Int} (g0 : 0 ≤ g) (g1 : g ≤ 1000000) (b0 : 0 ≤ b) (b1 : b ≤ 1000000) : IntKind.i64.wrap (0 - IntKind.i64.wrap ((IntKind.i64.wrap (1000 * IntKind.i64.wrap (b - g))).tdiv (IntKind.i64.wrap (IntKind.i64.wrap (g + b) + 1000)))) = sc g b := by
  rw [wrap_mid (b - g) (by omega) (by omega), wrap_mid (g + b) (by omega) (by omega), wrap_mid (1000 * (b - g)) (by omega) (by omega), wrap_mid (g + b + 1000) (by omega) (by omega)]
  obtain ⟨h1, h2⟩ := tdiv_bd (a := 1000 * (b - g)) (b := g + b + 1000) (by omega) (by omega) (by omega)
  rw [wrap_mid ((1000 * (b - g)).tdiv (g + b + 1000)) (by omega) (by omega), wrap_mid _ (by omega) (by omega)]
  unfold sc
  rw [show 1000 * (g - b) = -(1000 * (b - g)) from by omega, Int.neg_tdiv]
  omega
def scoreV (es : List AV) (s : List UInt8) (day : Int) : Int := match findS s es with
  | some q => sc (halve (gOf (es.getD q .unk)) (day - dOf (es.getD q .unk))) (halve (bOf (es.getD q .unk)) (day - dOf (es.getD q .unk)))
  | none => 0
def F17 : List AV → Tr AV
  | [.slv (.agg [.str, .int .i64, .int .i64, .int .i64]) es, .str s, .int .i64 now] =>
    .gd (small es.length) (.br ((findF es s now).1 != 0) (.leaf (.tup [.int .i64 0, fault (findF es s now)])) (.leaf (.tup [.int .i64 (scoreV es s (now / 86400)), fault (0, 0)])))
  | _ => .no
noncomputable def G17 : Env := { G1 with pure := (20, ofT F20) :: (26, F26) :: (25, F25) :: G1.pure }
theorem g17 : GOK Try.prog G17 := GOK.also (GOK.also (GOK.also g1 ok25) ok26) ok20
theorem ok17 : SumOK Try.prog 17 (ofT F17) ∧ SNat (ofT F17) := by
  refine fn0 g17 Try.func17 (by kernel_rfl) fun ρ avs k r h => ?_
  unfold F17 at h
  split at h
  · rename_i es s now
    obtain ⟨hc, hk⟩ := gd_some h
    refine Eq.trans (b := bif small es.length then bif (findF es s now).fst != (0 : Int) then bif (findF es s now).fst != (0 : Int) then k (AV.tup [AV.int IntKind.i64 (0 : Int), AV.agg [AV.int IntKind.i64 (findF es s now).fst, AV.int IntKind.i64 (findF es s now).snd]]) else k (AV.tup [AV.int IntKind.i64 (0 : Int), AV.agg [AV.int IntKind.i64 (findF es s now).fst, AV.int IntKind.i64 (findF es s now).snd]]) else bif !(findS s es).isSome then k (AV.tup [AV.int IntKind.i64 (0 : Int), AV.agg [AV.int IntKind.i64 ((0 : Int), (0 : Int)).fst, AV.int IntKind.i64 ((0 : Int), (0 : Int)).snd]]) else bif inb (↑(posS es s) : Int) es.length then bif tmB now then bif okS (gOf (es.getD (posS es s) AV.unk)) (bOf (es.getD (posS es s) AV.unk)) (dOf (es.getD (posS es s) AV.unk)) (now / (86400 : Int)) then bif decide (IntKind.i64.wrap (IntKind.i64.wrap (halve (gOf (es.getD (posS es s) AV.unk)) (now / (86400 : Int) - (dOf (es.getD (posS es s) AV.unk))) + halve (bOf (es.getD (posS es s) AV.unk)) (now / (86400 : Int) - (dOf (es.getD (posS es s) AV.unk)))) + (1000 : Int)) = (0 : Int)) then none else k (AV.tup [AV.int IntKind.i64 (IntKind.i64.wrap ((IntKind.i64.wrap ((1000 : Int) * IntKind.i64.wrap (halve (gOf (es.getD (posS es s) AV.unk)) (now / (86400 : Int) - (dOf (es.getD (posS es s) AV.unk))) - halve (bOf (es.getD (posS es s) AV.unk)) (now / (86400 : Int) - (dOf (es.getD (posS es s) AV.unk)))))).tdiv (IntKind.i64.wrap (IntKind.i64.wrap (halve (gOf (es.getD (posS es s) AV.unk)) (now / (86400 : Int) - (dOf (es.getD (posS es s) AV.unk))) + halve (bOf (es.getD (posS es s) AV.unk)) (now / (86400 : Int) - (dOf (es.getD (posS es s) AV.unk)))) + (1000 : Int))))), AV.agg [AV.int IntKind.i64 (0 : Int), AV.int IntKind.i64 (0 : Int)]]) else none else none else none else none) (by kernel_rfl) ?_
    rw [← hk, hc]
    cases hv : (findF es s now).1 != 0
    · obtain ⟨O, h1, h2, h3⟩ := findF_ok (by simpa using hv : (findF es s now).1 = 0)
      have hl := O.len
      simp only [cond_true, cond_false, h2]
      unfold scoreV
      cases hf : findS s es with
      | none => rfl
      | some q =>
        obtain ⟨e1, e2, e3⟩ := find_pos O hf
        have e4 := h3 q hf
        obtain ⟨g0, g1⟩ := O.g q e2
        obtain ⟨b0, b1⟩ := O.b q e2
        obtain ⟨d0, d1⟩ := O.d q e2
        obtain ⟨n0, n1⟩ := day_bd h2
        obtain ⟨g2, g3⟩ := halve_bd (d := now / 86400 - dOf (es.getD q .unk)) g0 g1
        obtain ⟨b2, b3⟩ := halve_bd (d := now / 86400 - dOf (es.getD q .unk)) b0 b1
        obtain ⟨s1, s2⟩ := scW g2 g3 b2 b3
        rw [e1, inb_true (by omega) (by omega), s1, s2]
        have ho : okS (gOf (es.getD q .unk)) (bOf (es.getD q .unk)) (dOf (es.getD q .unk)) (now / 86400) = true := by
          unfold okS
          rw [inR_of g0 g1, inR_of b0 b1, inR_of (by omega) (by omega)]
          rfl
        rw [ho]
        rfl
    · rfl
  · cases h
def F18 : List AV → Tr AV
  | [.slv (.agg [.str, .int .i64, .int .i64, .int .i64]) es, .str s, .int .i64 now] => .gd (small es.length && ((findF es s now).1 == 0)) (.leaf (.int .i64 (scoreV es s (now / 86400))))
  | _ => .no
theorem ok18 : SumOK Try.prog 18 (ofT F18) ∧ SNat (ofT F18) := by
  refine fn0 g12 Try.func18 (by kernel_rfl) fun ρ avs k r h => ?_
  unfold F18 at h
  split at h
  · rename_i es s now
    obtain ⟨hc, hk⟩ := gd_some h
    simp only [Bool.and_eq_true] at hc
    obtain ⟨hc, hz⟩ := hc
    obtain ⟨O, h1, h2, h3⟩ := findF_ok (by simpa using hz : (findF es s now).1 = 0)
    have hl := O.len
    refine Eq.trans (b := bif small es.length then bif decide (idxZ (findS s es) < (0 : Int)) then k (AV.int IntKind.i64 (0 : Int)) else bif inb (idxZ (findS s es)) es.length then bif tmB now then bif inb (idxZ (findS s es)) es.length then bif decide ((0 : Int) ≤ (gOf (es.getD (idxZ (findS s es)).toNat AV.unk)) ∧ (gOf (es.getD (idxZ (findS s es)).toNat AV.unk)) ≤ (1000000 : Int) ∧ (0 : Int) ≤ IntKind.i64.wrap (now / (86400 : Int) - (dOf (es.getD (idxZ (findS s es)).toNat AV.unk))) ∧ IntKind.i64.wrap (now / (86400 : Int) - (dOf (es.getD (idxZ (findS s es)).toNat AV.unk))) ≤ (10000000 : Int)) then bif inb (idxZ (findS s es)) es.length then bif tmB now then bif inb (idxZ (findS s es)) es.length then bif decide ((0 : Int) ≤ (bOf (es.getD (idxZ (findS s es)).toNat AV.unk)) ∧ (bOf (es.getD (idxZ (findS s es)).toNat AV.unk)) ≤ (1000000 : Int) ∧ (0 : Int) ≤ IntKind.i64.wrap (now / (86400 : Int) - (dOf (es.getD (idxZ (findS s es)).toNat AV.unk))) ∧ IntKind.i64.wrap (now / (86400 : Int) - (dOf (es.getD (idxZ (findS s es)).toNat AV.unk))) ≤ (10000000 : Int)) then bif decide (halve (gOf (es.getD (idxZ (findS s es)).toNat AV.unk)) (IntKind.i64.wrap (now / (86400 : Int) - (dOf (es.getD (idxZ (findS s es)).toNat AV.unk)))) < halve (bOf (es.getD (idxZ (findS s es)).toNat AV.unk)) (IntKind.i64.wrap (now / (86400 : Int) - (dOf (es.getD (idxZ (findS s es)).toNat AV.unk))))) then bif decide (IntKind.i64.wrap (IntKind.i64.wrap (halve (gOf (es.getD (idxZ (findS s es)).toNat AV.unk)) (IntKind.i64.wrap (now / (86400 : Int) - (dOf (es.getD (idxZ (findS s es)).toNat AV.unk)))) + halve (bOf (es.getD (idxZ (findS s es)).toNat AV.unk)) (IntKind.i64.wrap (now / (86400 : Int) - (dOf (es.getD (idxZ (findS s es)).toNat AV.unk))))) + (1000 : Int)) = (0 : Int)) then none else k (AV.int IntKind.i64 (IntKind.i64.wrap ((0 : Int) - IntKind.i64.wrap ((IntKind.i64.wrap ((1000 : Int) * IntKind.i64.wrap (halve (bOf (es.getD (idxZ (findS s es)).toNat AV.unk)) (IntKind.i64.wrap (now / (86400 : Int) - (dOf (es.getD (idxZ (findS s es)).toNat AV.unk)))) - halve (gOf (es.getD (idxZ (findS s es)).toNat AV.unk)) (IntKind.i64.wrap (now / (86400 : Int) - (dOf (es.getD (idxZ (findS s es)).toNat AV.unk))))))).tdiv (IntKind.i64.wrap (IntKind.i64.wrap (halve (gOf (es.getD (idxZ (findS s es)).toNat AV.unk)) (IntKind.i64.wrap (now / (86400 : Int) - (dOf (es.getD (idxZ (findS s es)).toNat AV.unk)))) + halve (bOf (es.getD (idxZ (findS s es)).toNat AV.unk)) (IntKind.i64.wrap (now / (86400 : Int) - (dOf (es.getD (idxZ (findS s es)).toNat AV.unk))))) + (1000 : Int))))))) else bif decide (IntKind.i64.wrap (IntKind.i64.wrap (halve (gOf (es.getD (idxZ (findS s es)).toNat AV.unk)) (IntKind.i64.wrap (now / (86400 : Int) - (dOf (es.getD (idxZ (findS s es)).toNat AV.unk)))) + halve (bOf (es.getD (idxZ (findS s es)).toNat AV.unk)) (IntKind.i64.wrap (now / (86400 : Int) - (dOf (es.getD (idxZ (findS s es)).toNat AV.unk))))) + (1000 : Int)) = (0 : Int)) then none else k (AV.int IntKind.i64 (IntKind.i64.wrap ((IntKind.i64.wrap ((1000 : Int) * IntKind.i64.wrap (halve (gOf (es.getD (idxZ (findS s es)).toNat AV.unk)) (IntKind.i64.wrap (now / (86400 : Int) - (dOf (es.getD (idxZ (findS s es)).toNat AV.unk)))) - halve (bOf (es.getD (idxZ (findS s es)).toNat AV.unk)) (IntKind.i64.wrap (now / (86400 : Int) - (dOf (es.getD (idxZ (findS s es)).toNat AV.unk))))))).tdiv (IntKind.i64.wrap (IntKind.i64.wrap (halve (gOf (es.getD (idxZ (findS s es)).toNat AV.unk)) (IntKind.i64.wrap (now / (86400 : Int) - (dOf (es.getD (idxZ (findS s es)).toNat AV.unk)))) + halve (bOf (es.getD (idxZ (findS s es)).toNat AV.unk)) (IntKind.i64.wrap (now / (86400 : Int) - (dOf (es.getD (idxZ (findS s es)).toNat AV.unk))))) + (1000 : Int)))))) else none else none else none else none else none else none else none else none else none) (by kernel_rfl) ?_
    rw [← hk, hc]
    unfold scoreV
    cases hf : findS s es with
    | none => rfl
    | some q =>
      obtain ⟨e1, e2, e3⟩ := find_pos O hf
      have e4 := h3 q hf
      obtain ⟨g0, g1⟩ := O.g q e2
      obtain ⟨b0, b1⟩ := O.b q e2
      obtain ⟨d0, d1⟩ := O.d q e2
      obtain ⟨n0, n1⟩ := day_bd h2
      obtain ⟨g2, g3⟩ := halve_bd (d := now / 86400 - dOf (es.getD q .unk)) g0 g1
      obtain ⟨b2, b3⟩ := halve_bd (d := now / 86400 - dOf (es.getD q .unk)) b0 b1
      have ew : IntKind.i64.wrap (now / 86400 - dOf (es.getD q .unk)) = now / 86400 - dOf (es.getD q .unk) := wrap_mid _ (by omega) (by omega)
      simp only [idxZ, Int.toNat_natCast, ew, h2]
      obtain ⟨s1, s2⟩ := scW g2 g3 b2 b3
      rw [inb_true (by omega) (by omega), s1, s2, scR g2 g3 b2 b3]
      simp only [cond_true, cond_false]
      refine Eq.trans (cond_f (decide_eq_false (by omega))) ?_
      refine Eq.trans (cond_t (decide_eq_true (by omega))) (Eq.trans (cond_t (decide_eq_true (by omega))) ?_)
      cases decide (halve (gOf (es.getD q .unk)) (now / 86400 - dOf (es.getD q .unk)) < halve (bOf (es.getD q .unk)) (now / 86400 - dOf (es.getD q .unk))) <;> rfl
  · cases h
/-! Note -/
def noteF (es : List AV) (s : List UInt8) (now : Int) : Int × Int := bif (findF es s now).1 != 0 then findF es s now else bif !(findS s es).isSome && ((es.length : Int) == 300) then (2, -1) else (0, 0)
def noteL (es : List AV) (s : List UInt8) (x : AV) : List AV := match findS s es with
  | some q => es.set q x
  | none => es.take (posS es s) ++ x :: es.drop (posS es s)
def F8 : List AV → Tr AV
  | [.slv (.agg [.str, .int .i64, .int .i64, .int .i64]) es, .str s, .bool junk, .int .i64 now] =>
    .gd (small es.length) (.br ((noteF es s now).1 != 0) (.leaf (.tup [.slv sS [], fault (noteF es s now)])) (.leaf (.tup [.slv sS (noteL es s (newS es s junk (now / 86400))), fault (0, 0)])))
  | _ => .no
noncomputable def G8 : Env := { G17 with opens := [(24, ofX F24), (23, ofX F23)] }
theorem g8 : GOK Try.prog G8 := GOK.alsoX (GOK.alsoX g17 ok23) ok24
theorem put_len {es : List AV} {p : Nat} (x : AV) (h : p ≤ es.length) : (es.take p ++ x :: es.drop p).length = es.length + 1 := by
  rw [List.length_append, List.length_take, List.length_cons, List.length_drop]; omega
theorem put_get {es : List AV} {p : Nat} (x : AV) (h : p ≤ es.length) : (es.take p ++ x :: es.drop p).getD p .unk = x := by
  have : (es.take p).length = p := by rw [List.length_take]; omega
  simp [List.getD, List.getElem?_append, this]
theorem put_set {es : List AV} {p : Nat} (x y : AV) (h : p ≤ es.length) : (es.take p ++ x :: es.drop p).set p y = es.take p ++ y :: es.drop p := by
  have : (es.take p).length = p := by rw [List.length_take]; omega
  rw [List.set_append, if_neg (by omega), this, Nat.sub_self]
  rfl
theorem halve0 (d : Int) : halve 0 d = 0 := by simp [halve]
theorem ok8 : SumOK Try.prog 8 (ofT F8) ∧ SNat (ofT F8) := by
  refine fn0 g8 Try.func8 (by kernel_rfl) fun ρ avs k r h => ?_
  unfold F8 at h
  split at h
  · rename_i es s junk now
    obtain ⟨hc, hk⟩ := gd_some h
    refine Eq.trans (b := bif small es.length then bif (findF es s now).fst != (0 : Int) then bif (findF es s now).fst != (0 : Int) then k (AV.tup [AV.slv (Sh.agg [Sh.str, Sh.int IntKind.i64, Sh.int IntKind.i64, Sh.int IntKind.i64]) [], AV.agg [AV.int IntKind.i64 (findF es s now).fst, AV.int IntKind.i64 (findF es s now).snd]]) else bif (↑es.length : Int) == (300 : Int) then k (AV.tup [AV.slv (Sh.agg [Sh.str, Sh.int IntKind.i64, Sh.int IntKind.i64, Sh.int IntKind.i64]) [], AV.agg [AV.int IntKind.i64 (2 : Int), AV.int IntKind.i64 (-1 : Int)]]) else bif decide (es.length ≤ (1000000 : Nat)) then bif tmB now then bif ((fun x => PID + x) (0 : Nat)).beq PID && (((fun x => PID + x) ((fun x => x + (1 : Nat)) (0 : Nat))).beq (PID + (1 : Nat)) && decide ((0 : Int) ≤ (0 : Int) ∧ (0 : Int) ≤ (↑es.length : Int) ∧ es.length ≤ (100000 : Nat))) then bif inb (0 : Int) (AV.agg [AV.str s, AV.int IntKind.i64 (0 : Int), AV.int IntKind.i64 (0 : Int), AV.int IntKind.i64 (now / (86400 : Int))] :: es).length then bif tmB now then bif okS ([AV.int IntKind.i64 (0 : Int), AV.int IntKind.i64 (0 : Int), AV.int IntKind.i64 (now / (86400 : Int))].headD AV.unk).toInt ([AV.int IntKind.i64 (0 : Int), AV.int IntKind.i64 (now / (86400 : Int))].headD AV.unk).toInt ([AV.int IntKind.i64 (now / (86400 : Int))].headD AV.unk).toInt (now / (86400 : Int)) then bif junk then bif inb (0 : Int) (AV.agg [AV.str s, AV.int IntKind.i64 (0 : Int), AV.int IntKind.i64 (0 : Int), AV.int IntKind.i64 (now / (86400 : Int))] :: es).length then k (AV.tup [AV.slv (Sh.agg [Sh.str, Sh.int IntKind.i64, Sh.int IntKind.i64, Sh.int IntKind.i64]) (AV.agg [AV.str s, AV.int IntKind.i64 (halve ([AV.int IntKind.i64 (0 : Int), AV.int IntKind.i64 (0 : Int), AV.int IntKind.i64 (now / (86400 : Int))].headD AV.unk).toInt (now / (86400 : Int) - ([AV.int IntKind.i64 (now / (86400 : Int))].headD AV.unk).toInt)), AV.int IntKind.i64 (if (1000000 : Int) < IntKind.i64.wrap (halve ([AV.int IntKind.i64 (0 : Int), AV.int IntKind.i64 (now / (86400 : Int))].headD AV.unk).toInt (now / (86400 : Int) - ([AV.int IntKind.i64 (now / (86400 : Int))].headD AV.unk).toInt) + (1000 : Int)) then (1000000 : Int) else IntKind.i64.wrap (halve ([AV.int IntKind.i64 (0 : Int), AV.int IntKind.i64 (now / (86400 : Int))].headD AV.unk).toInt (now / (86400 : Int) - ([AV.int IntKind.i64 (now / (86400 : Int))].headD AV.unk).toInt) + (1000 : Int))), AV.int IntKind.i64 (now / (86400 : Int))] :: es), AV.agg [AV.int IntKind.i64 (0 : Int), AV.int IntKind.i64 (0 : Int)]]) else none else bif inb (0 : Int) (AV.agg [AV.str s, AV.int IntKind.i64 (0 : Int), AV.int IntKind.i64 (0 : Int), AV.int IntKind.i64 (now / (86400 : Int))] :: es).length then k (AV.tup [AV.slv (Sh.agg [Sh.str, Sh.int IntKind.i64, Sh.int IntKind.i64, Sh.int IntKind.i64]) (AV.agg [AV.str s, AV.int IntKind.i64 (if (1000000 : Int) < IntKind.i64.wrap (halve ([AV.int IntKind.i64 (0 : Int), AV.int IntKind.i64 (0 : Int), AV.int IntKind.i64 (now / (86400 : Int))].headD AV.unk).toInt (now / (86400 : Int) - ([AV.int IntKind.i64 (now / (86400 : Int))].headD AV.unk).toInt) + (1000 : Int)) then (1000000 : Int) else IntKind.i64.wrap (halve ([AV.int IntKind.i64 (0 : Int), AV.int IntKind.i64 (0 : Int), AV.int IntKind.i64 (now / (86400 : Int))].headD AV.unk).toInt (now / (86400 : Int) - ([AV.int IntKind.i64 (now / (86400 : Int))].headD AV.unk).toInt) + (1000 : Int))), AV.int IntKind.i64 (halve ([AV.int IntKind.i64 (0 : Int), AV.int IntKind.i64 (now / (86400 : Int))].headD AV.unk).toInt (now / (86400 : Int) - ([AV.int IntKind.i64 (now / (86400 : Int))].headD AV.unk).toInt)), AV.int IntKind.i64 (now / (86400 : Int))] :: es), AV.agg [AV.int IntKind.i64 (0 : Int), AV.int IntKind.i64 (0 : Int)]]) else none else none else none else none else none else none else none else bif !(findS s es).isSome then bif (↑es.length : Int) == (300 : Int) then k (AV.tup [AV.slv (Sh.agg [Sh.str, Sh.int IntKind.i64, Sh.int IntKind.i64, Sh.int IntKind.i64]) [], AV.agg [AV.int IntKind.i64 (2 : Int), AV.int IntKind.i64 (-1 : Int)]]) else bif decide (es.length ≤ (1000000 : Nat)) then bif !(findS s es).isSome then bif tmB now then bif ((fun x => PID + x) (0 : Nat)).beq PID && (((fun x => PID + x) ((fun x => x + (1 : Nat)) (0 : Nat))).beq (PID + (1 : Nat)) && decide ((0 : Int) ≤ (↑(posS es s) : Int) ∧ (↑(posS es s) : Int) ≤ (↑es.length : Int) ∧ es.length ≤ (100000 : Nat))) then bif inb (↑(posS es s) : Int) (List.take (posS es s) es ++ sx s (0 : Int) (0 : Int) (now / (86400 : Int)) :: List.drop (posS es s) es).length then bif decide ((posS es s) < (List.take (posS es s) es ++ sx s (0 : Int) (0 : Int) (now / (86400 : Int)) :: List.drop (posS es s) es).length) then bif tmB now then bif okS (gOf ((List.take (posS es s) es ++ sx s (0 : Int) (0 : Int) (now / (86400 : Int)) :: List.drop (posS es s) es).getD (posS es s) AV.unk)) (bOf ((List.take (posS es s) es ++ sx s (0 : Int) (0 : Int) (now / (86400 : Int)) :: List.drop (posS es s) es).getD (posS es s) AV.unk)) (dOf ((List.take (posS es s) es ++ sx s (0 : Int) (0 : Int) (now / (86400 : Int)) :: List.drop (posS es s) es).getD (posS es s) AV.unk)) (now / (86400 : Int)) then bif junk then bif inb (↑(posS es s) : Int) (List.take (posS es s) es ++ sx s (0 : Int) (0 : Int) (now / (86400 : Int)) :: List.drop (posS es s) es).length then bif decide ((posS es s) < (List.take (posS es s) es ++ sx s (0 : Int) (0 : Int) (now / (86400 : Int)) :: List.drop (posS es s) es).length) then k (AV.tup [AV.slv (Sh.agg [Sh.str, Sh.int IntKind.i64, Sh.int IntKind.i64, Sh.int IntKind.i64]) ((List.take (posS es s) es ++ sx s (0 : Int) (0 : Int) (now / (86400 : Int)) :: List.drop (posS es s) es).set (posS es s) (mkAV sS [AV.str (nmOf ((List.take (posS es s) es ++ sx s (0 : Int) (0 : Int) (now / (86400 : Int)) :: List.drop (posS es s) es).getD (posS es s) AV.unk)), AV.int IntKind.i64 (halve (gOf ((List.take (posS es s) es ++ sx s (0 : Int) (0 : Int) (now / (86400 : Int)) :: List.drop (posS es s) es).getD (posS es s) AV.unk)) (now / (86400 : Int) - (dOf ((List.take (posS es s) es ++ sx s (0 : Int) (0 : Int) (now / (86400 : Int)) :: List.drop (posS es s) es).getD (posS es s) AV.unk)))), AV.int IntKind.i64 (if (1000000 : Int) < IntKind.i64.wrap (halve (bOf ((List.take (posS es s) es ++ sx s (0 : Int) (0 : Int) (now / (86400 : Int)) :: List.drop (posS es s) es).getD (posS es s) AV.unk)) (now / (86400 : Int) - (dOf ((List.take (posS es s) es ++ sx s (0 : Int) (0 : Int) (now / (86400 : Int)) :: List.drop (posS es s) es).getD (posS es s) AV.unk))) + (1000 : Int)) then (1000000 : Int) else IntKind.i64.wrap (halve (bOf ((List.take (posS es s) es ++ sx s (0 : Int) (0 : Int) (now / (86400 : Int)) :: List.drop (posS es s) es).getD (posS es s) AV.unk)) (now / (86400 : Int) - (dOf ((List.take (posS es s) es ++ sx s (0 : Int) (0 : Int) (now / (86400 : Int)) :: List.drop (posS es s) es).getD (posS es s) AV.unk))) + (1000 : Int))), AV.int IntKind.i64 (now / (86400 : Int))])), AV.agg [AV.int IntKind.i64 (0 : Int), AV.int IntKind.i64 (0 : Int)]]) else none else none else bif inb (↑(posS es s) : Int) (List.take (posS es s) es ++ sx s (0 : Int) (0 : Int) (now / (86400 : Int)) :: List.drop (posS es s) es).length then bif decide ((posS es s) < (List.take (posS es s) es ++ sx s (0 : Int) (0 : Int) (now / (86400 : Int)) :: List.drop (posS es s) es).length) then k (AV.tup [AV.slv (Sh.agg [Sh.str, Sh.int IntKind.i64, Sh.int IntKind.i64, Sh.int IntKind.i64]) ((List.take (posS es s) es ++ sx s (0 : Int) (0 : Int) (now / (86400 : Int)) :: List.drop (posS es s) es).set (posS es s) (mkAV sS [AV.str (nmOf ((List.take (posS es s) es ++ sx s (0 : Int) (0 : Int) (now / (86400 : Int)) :: List.drop (posS es s) es).getD (posS es s) AV.unk)), AV.int IntKind.i64 (if (1000000 : Int) < IntKind.i64.wrap (halve (gOf ((List.take (posS es s) es ++ sx s (0 : Int) (0 : Int) (now / (86400 : Int)) :: List.drop (posS es s) es).getD (posS es s) AV.unk)) (now / (86400 : Int) - (dOf ((List.take (posS es s) es ++ sx s (0 : Int) (0 : Int) (now / (86400 : Int)) :: List.drop (posS es s) es).getD (posS es s) AV.unk))) + (1000 : Int)) then (1000000 : Int) else IntKind.i64.wrap (halve (gOf ((List.take (posS es s) es ++ sx s (0 : Int) (0 : Int) (now / (86400 : Int)) :: List.drop (posS es s) es).getD (posS es s) AV.unk)) (now / (86400 : Int) - (dOf ((List.take (posS es s) es ++ sx s (0 : Int) (0 : Int) (now / (86400 : Int)) :: List.drop (posS es s) es).getD (posS es s) AV.unk))) + (1000 : Int))), AV.int IntKind.i64 (halve (bOf ((List.take (posS es s) es ++ sx s (0 : Int) (0 : Int) (now / (86400 : Int)) :: List.drop (posS es s) es).getD (posS es s) AV.unk)) (now / (86400 : Int) - (dOf ((List.take (posS es s) es ++ sx s (0 : Int) (0 : Int) (now / (86400 : Int)) :: List.drop (posS es s) es).getD (posS es s) AV.unk)))), AV.int IntKind.i64 (now / (86400 : Int))])), AV.agg [AV.int IntKind.i64 (0 : Int), AV.int IntKind.i64 (0 : Int)]]) else none else none else none else none else none else none else none else none else bif inb (↑(posS es s) : Int) es.length then bif decide ((posS es s) < es.length) then bif tmB now then bif okS (gOf (es.getD (posS es s) AV.unk)) (bOf (es.getD (posS es s) AV.unk)) (dOf (es.getD (posS es s) AV.unk)) (now / (86400 : Int)) then bif junk then bif inb (↑(posS es s) : Int) es.length then bif decide ((posS es s) < es.length) then k (AV.tup [AV.slv (Sh.agg [Sh.str, Sh.int IntKind.i64, Sh.int IntKind.i64, Sh.int IntKind.i64]) (es.set (posS es s) (mkAV sS [AV.str (nmOf (es.getD (posS es s) AV.unk)), AV.int IntKind.i64 (halve (gOf (es.getD (posS es s) AV.unk)) (now / (86400 : Int) - (dOf (es.getD (posS es s) AV.unk)))), AV.int IntKind.i64 (if (1000000 : Int) < IntKind.i64.wrap (halve (bOf (es.getD (posS es s) AV.unk)) (now / (86400 : Int) - (dOf (es.getD (posS es s) AV.unk))) + (1000 : Int)) then (1000000 : Int) else IntKind.i64.wrap (halve (bOf (es.getD (posS es s) AV.unk)) (now / (86400 : Int) - (dOf (es.getD (posS es s) AV.unk))) + (1000 : Int))), AV.int IntKind.i64 (now / (86400 : Int))])), AV.agg [AV.int IntKind.i64 (0 : Int), AV.int IntKind.i64 (0 : Int)]]) else none else none else bif inb (↑(posS es s) : Int) es.length then bif decide ((posS es s) < es.length) then k (AV.tup [AV.slv (Sh.agg [Sh.str, Sh.int IntKind.i64, Sh.int IntKind.i64, Sh.int IntKind.i64]) (es.set (posS es s) (mkAV sS [AV.str (nmOf (es.getD (posS es s) AV.unk)), AV.int IntKind.i64 (if (1000000 : Int) < IntKind.i64.wrap (halve (gOf (es.getD (posS es s) AV.unk)) (now / (86400 : Int) - (dOf (es.getD (posS es s) AV.unk))) + (1000 : Int)) then (1000000 : Int) else IntKind.i64.wrap (halve (gOf (es.getD (posS es s) AV.unk)) (now / (86400 : Int) - (dOf (es.getD (posS es s) AV.unk))) + (1000 : Int))), AV.int IntKind.i64 (halve (bOf (es.getD (posS es s) AV.unk)) (now / (86400 : Int) - (dOf (es.getD (posS es s) AV.unk)))), AV.int IntKind.i64 (now / (86400 : Int))])), AV.agg [AV.int IntKind.i64 (0 : Int), AV.int IntKind.i64 (0 : Int)]]) else none else none else none else none else none else none else none else bif decide (es.length ≤ (1000000 : Nat)) then bif !(findS s es).isSome then bif tmB now then bif ((fun x => PID + x) (0 : Nat)).beq PID && (((fun x => PID + x) ((fun x => x + (1 : Nat)) (0 : Nat))).beq (PID + (1 : Nat)) && decide ((0 : Int) ≤ (↑(posS es s) : Int) ∧ (↑(posS es s) : Int) ≤ (↑es.length : Int) ∧ es.length ≤ (100000 : Nat))) then bif inb (↑(posS es s) : Int) (List.take (posS es s) es ++ sx s (0 : Int) (0 : Int) (now / (86400 : Int)) :: List.drop (posS es s) es).length then bif decide ((posS es s) < (List.take (posS es s) es ++ sx s (0 : Int) (0 : Int) (now / (86400 : Int)) :: List.drop (posS es s) es).length) then bif tmB now then bif okS (gOf ((List.take (posS es s) es ++ sx s (0 : Int) (0 : Int) (now / (86400 : Int)) :: List.drop (posS es s) es).getD (posS es s) AV.unk)) (bOf ((List.take (posS es s) es ++ sx s (0 : Int) (0 : Int) (now / (86400 : Int)) :: List.drop (posS es s) es).getD (posS es s) AV.unk)) (dOf ((List.take (posS es s) es ++ sx s (0 : Int) (0 : Int) (now / (86400 : Int)) :: List.drop (posS es s) es).getD (posS es s) AV.unk)) (now / (86400 : Int)) then bif junk then bif inb (↑(posS es s) : Int) (List.take (posS es s) es ++ sx s (0 : Int) (0 : Int) (now / (86400 : Int)) :: List.drop (posS es s) es).length then bif decide ((posS es s) < (List.take (posS es s) es ++ sx s (0 : Int) (0 : Int) (now / (86400 : Int)) :: List.drop (posS es s) es).length) then k (AV.tup [AV.slv (Sh.agg [Sh.str, Sh.int IntKind.i64, Sh.int IntKind.i64, Sh.int IntKind.i64]) ((List.take (posS es s) es ++ sx s (0 : Int) (0 : Int) (now / (86400 : Int)) :: List.drop (posS es s) es).set (posS es s) (mkAV sS [AV.str (nmOf ((List.take (posS es s) es ++ sx s (0 : Int) (0 : Int) (now / (86400 : Int)) :: List.drop (posS es s) es).getD (posS es s) AV.unk)), AV.int IntKind.i64 (halve (gOf ((List.take (posS es s) es ++ sx s (0 : Int) (0 : Int) (now / (86400 : Int)) :: List.drop (posS es s) es).getD (posS es s) AV.unk)) (now / (86400 : Int) - (dOf ((List.take (posS es s) es ++ sx s (0 : Int) (0 : Int) (now / (86400 : Int)) :: List.drop (posS es s) es).getD (posS es s) AV.unk)))), AV.int IntKind.i64 (if (1000000 : Int) < IntKind.i64.wrap (halve (bOf ((List.take (posS es s) es ++ sx s (0 : Int) (0 : Int) (now / (86400 : Int)) :: List.drop (posS es s) es).getD (posS es s) AV.unk)) (now / (86400 : Int) - (dOf ((List.take (posS es s) es ++ sx s (0 : Int) (0 : Int) (now / (86400 : Int)) :: List.drop (posS es s) es).getD (posS es s) AV.unk))) + (1000 : Int)) then (1000000 : Int) else IntKind.i64.wrap (halve (bOf ((List.take (posS es s) es ++ sx s (0 : Int) (0 : Int) (now / (86400 : Int)) :: List.drop (posS es s) es).getD (posS es s) AV.unk)) (now / (86400 : Int) - (dOf ((List.take (posS es s) es ++ sx s (0 : Int) (0 : Int) (now / (86400 : Int)) :: List.drop (posS es s) es).getD (posS es s) AV.unk))) + (1000 : Int))), AV.int IntKind.i64 (now / (86400 : Int))])), AV.agg [AV.int IntKind.i64 (0 : Int), AV.int IntKind.i64 (0 : Int)]]) else none else none else bif inb (↑(posS es s) : Int) (List.take (posS es s) es ++ sx s (0 : Int) (0 : Int) (now / (86400 : Int)) :: List.drop (posS es s) es).length then bif decide ((posS es s) < (List.take (posS es s) es ++ sx s (0 : Int) (0 : Int) (now / (86400 : Int)) :: List.drop (posS es s) es).length) then k (AV.tup [AV.slv (Sh.agg [Sh.str, Sh.int IntKind.i64, Sh.int IntKind.i64, Sh.int IntKind.i64]) ((List.take (posS es s) es ++ sx s (0 : Int) (0 : Int) (now / (86400 : Int)) :: List.drop (posS es s) es).set (posS es s) (mkAV sS [AV.str (nmOf ((List.take (posS es s) es ++ sx s (0 : Int) (0 : Int) (now / (86400 : Int)) :: List.drop (posS es s) es).getD (posS es s) AV.unk)), AV.int IntKind.i64 (if (1000000 : Int) < IntKind.i64.wrap (halve (gOf ((List.take (posS es s) es ++ sx s (0 : Int) (0 : Int) (now / (86400 : Int)) :: List.drop (posS es s) es).getD (posS es s) AV.unk)) (now / (86400 : Int) - (dOf ((List.take (posS es s) es ++ sx s (0 : Int) (0 : Int) (now / (86400 : Int)) :: List.drop (posS es s) es).getD (posS es s) AV.unk))) + (1000 : Int)) then (1000000 : Int) else IntKind.i64.wrap (halve (gOf ((List.take (posS es s) es ++ sx s (0 : Int) (0 : Int) (now / (86400 : Int)) :: List.drop (posS es s) es).getD (posS es s) AV.unk)) (now / (86400 : Int) - (dOf ((List.take (posS es s) es ++ sx s (0 : Int) (0 : Int) (now / (86400 : Int)) :: List.drop (posS es s) es).getD (posS es s) AV.unk))) + (1000 : Int))), AV.int IntKind.i64 (halve (bOf ((List.take (posS es s) es ++ sx s (0 : Int) (0 : Int) (now / (86400 : Int)) :: List.drop (posS es s) es).getD (posS es s) AV.unk)) (now / (86400 : Int) - (dOf ((List.take (posS es s) es ++ sx s (0 : Int) (0 : Int) (now / (86400 : Int)) :: List.drop (posS es s) es).getD (posS es s) AV.unk)))), AV.int IntKind.i64 (now / (86400 : Int))])), AV.agg [AV.int IntKind.i64 (0 : Int), AV.int IntKind.i64 (0 : Int)]]) else none else none else none else none else none else none else none else none else bif inb (↑(posS es s) : Int) es.length then bif decide ((posS es s) < es.length) then bif tmB now then bif okS (gOf (es.getD (posS es s) AV.unk)) (bOf (es.getD (posS es s) AV.unk)) (dOf (es.getD (posS es s) AV.unk)) (now / (86400 : Int)) then bif junk then bif inb (↑(posS es s) : Int) es.length then bif decide ((posS es s) < es.length) then k (AV.tup [AV.slv (Sh.agg [Sh.str, Sh.int IntKind.i64, Sh.int IntKind.i64, Sh.int IntKind.i64]) (es.set (posS es s) (mkAV sS [AV.str (nmOf (es.getD (posS es s) AV.unk)), AV.int IntKind.i64 (halve (gOf (es.getD (posS es s) AV.unk)) (now / (86400 : Int) - (dOf (es.getD (posS es s) AV.unk)))), AV.int IntKind.i64 (if (1000000 : Int) < IntKind.i64.wrap (halve (bOf (es.getD (posS es s) AV.unk)) (now / (86400 : Int) - (dOf (es.getD (posS es s) AV.unk))) + (1000 : Int)) then (1000000 : Int) else IntKind.i64.wrap (halve (bOf (es.getD (posS es s) AV.unk)) (now / (86400 : Int) - (dOf (es.getD (posS es s) AV.unk))) + (1000 : Int))), AV.int IntKind.i64 (now / (86400 : Int))])), AV.agg [AV.int IntKind.i64 (0 : Int), AV.int IntKind.i64 (0 : Int)]]) else none else none else bif inb (↑(posS es s) : Int) es.length then bif decide ((posS es s) < es.length) then k (AV.tup [AV.slv (Sh.agg [Sh.str, Sh.int IntKind.i64, Sh.int IntKind.i64, Sh.int IntKind.i64]) (es.set (posS es s) (mkAV sS [AV.str (nmOf (es.getD (posS es s) AV.unk)), AV.int IntKind.i64 (if (1000000 : Int) < IntKind.i64.wrap (halve (gOf (es.getD (posS es s) AV.unk)) (now / (86400 : Int) - (dOf (es.getD (posS es s) AV.unk))) + (1000 : Int)) then (1000000 : Int) else IntKind.i64.wrap (halve (gOf (es.getD (posS es s) AV.unk)) (now / (86400 : Int) - (dOf (es.getD (posS es s) AV.unk))) + (1000 : Int))), AV.int IntKind.i64 (halve (bOf (es.getD (posS es s) AV.unk)) (now / (86400 : Int) - (dOf (es.getD (posS es s) AV.unk)))), AV.int IntKind.i64 (now / (86400 : Int))])), AV.agg [AV.int IntKind.i64 (0 : Int), AV.int IntKind.i64 (0 : Int)]]) else none else none else none else none else none else none else none else none) (by kernel_rfl) ?_
    rw [← hk, hc]
    unfold noteF
    cases hv : (findF es s now).1 != 0
    · obtain ⟨O, h1, h2, h3⟩ := findF_ok (by simpa using hv : (findF es s now).1 = 0)
      have hl := O.len
      have hp := (pos_spec O s).1
      obtain ⟨n0, n1⟩ := day_bd h2
      simp only [cond_true, cond_false, h2, decide_eq_true (by omega : es.length ≤ 1000000)]
      unfold noteL newS
      cases hf : findS s es with
      | none =>
        simp only [Option.isSome_none, Bool.not_false, cond_true, Bool.true_and]
        cases h300 : ((es.length : Int) == 300)
        · simp only [put_get _ hp, put_set _ _ hp, put_len _ hp]
          simp only [cond_false]
          refine Eq.trans (cond_t (and_t (Nat.beq_refl _) (and_t (Nat.beq_refl _) (decide_eq_true (by omega))))) ?_
          refine Eq.trans (cond_t (inb_true (by omega) (by omega))) (Eq.trans (cond_t (decide_eq_true (by omega))) ?_)
          have ho : okS (gOf (sx s 0 0 (now / 86400))) (bOf (sx s 0 0 (now / 86400))) (dOf (sx s 0 0 (now / 86400))) (now / 86400) = true := by
            show (inR 0 0 1000000 && (inR 0 0 1000000 && inR (now / 86400 - now / 86400) 0 10000000)) = true
            rw [inR_of (n := now / 86400 - now / 86400) (by omega) (by omega)]
            rfl
          rw [ho, inb_true (by omega) (by omega), decide_eq_true (by omega)]
          simp only [cond_true]
          rw [show gOf (sx s 0 0 (now / 86400)) = 0 from rfl, show bOf (sx s 0 0 (now / 86400)) = 0 from rfl, halve0, capW (Int.le_refl 0) (by decide)]
          cases junk <;> rfl
        · rfl
      | some q =>
        obtain ⟨e1, e2, e3⟩ := find_pos O hf
        have e4 := h3 q hf
        obtain ⟨g0, g1⟩ := O.g q e2
        obtain ⟨b0, b1⟩ := O.b q e2
        obtain ⟨d0, d1⟩ := O.d q e2
        obtain ⟨g2, g3⟩ := halve_bd (d := now / 86400 - dOf (es.getD q .unk)) g0 g1
        obtain ⟨b2, b3⟩ := halve_bd (d := now / 86400 - dOf (es.getD q .unk)) b0 b1
        have ho : okS (gOf (es.getD q .unk)) (bOf (es.getD q .unk)) (dOf (es.getD q .unk)) (now / 86400) = true := by
          unfold okS
          rw [inR_of g0 g1, inR_of b0 b1, inR_of (by omega) (by omega)]
          rfl
        simp only [Option.isSome_some, Bool.not_true, cond_false, Bool.false_and]
        rw [e1, inb_true (by omega) (by omega), decide_eq_true e2, ho, capW g2 g3, capW b2 b3, e3]
        cases junk <;> rfl
    · simp only [cond_true, hv]
      rfl
  · cases h
end Go.Proofs.Ytbbmjifioimlmaa
