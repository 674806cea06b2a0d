/-
  Loops, by what they come to; what follows an evaluation may follow it later.
-/
import Derived.Test.YtpgaobdgohlegaaEvT
namespace Go.Ev
open Go.RowKit

section nat
variable {P : Program} {Γ : Env} {K : List (Nat × Loop)}

theorem decideAt_bind {ρ : Type} (ops : List Oper) (i : Nat) (dst : Option Tmp) (st : St) (f : St → Option St) (g : St → Option ρ) (k : St → Option ρ) (h : ∀ s, g s = (f s).bind k) : decideAt ops i dst st g = (decideAt ops i dst st f).bind k := by
  unfold decideAt
  split
  · split
    · split
      · rename_i b _; cases b <;> simp only [cond_true, cond_false, h]
      · rfl
    · rfl
  · exact h st

theorem evOps_bind (hN : NatOK Γ) {ρ : Type} (rid : Nat) (ops : List Oper) (bef : Option (List (List Nat))) (k : St → Option ρ) : ∀ (l : List Oper) (i : Nat) (st : St), evOps P Γ rid ops bef k i l st = (evOps P Γ rid ops bef some i l st).bind k
  | [], i, st => rfl
  | o :: rest, i, st => by
    have ih := evOps_bind hN rid ops bef k rest (i + 1)
    have run : ∀ rows, evOp P Γ (rid * 64 + i) o st.tm rows (fun e => if freshB (rid * 64 + i) e st.used then (apply (rid * 64 + i) o.dst e st).force fun st1 => decideAt ops i o.dst st1 (evOps P Γ rid ops bef k (i + 1) rest) else none) =
        (evOp P Γ (rid * 64 + i) o st.tm rows (fun e => if freshB (rid * 64 + i) e st.used then (apply (rid * 64 + i) o.dst e st).force fun st1 => decideAt ops i o.dst st1 (evOps P Γ rid ops bef some (i + 1) rest) else none)).bind k := fun rows => by
      rw [evOp_bind hN, evOp_bind hN (y := fun e => if freshB (rid * 64 + i) e st.used then (apply (rid * 64 + i) o.dst e st).force fun st1 => decideAt ops i o.dst st1 (evOps P Γ rid ops bef some (i + 1) rest) else none)]
      cases evOp P Γ (rid * 64 + i) o st.tm rows some with
      | none => rfl
      | some e =>
        simp only [Option.bind_some, St.force_eq]
        split
        · exact decideAt_bind ops i o.dst _ _ _ k ih
        · rfl
    have fin : ∀ rows, (match o.guard with
        | none => evOp P Γ (rid * 64 + i) o st.tm rows fun e => if freshB (rid * 64 + i) e st.used then (apply (rid * 64 + i) o.dst e st).force fun st1 => decideAt ops i o.dst st1 (evOps P Γ rid ops bef k (i + 1) rest) else none
        | some (j, want) =>
          match guardAt ops st.tm j with
          | .bool b => bif b == want then
              evOp P Γ (rid * 64 + i) o st.tm rows fun e => if freshB (rid * 64 + i) e st.used then (apply (rid * 64 + i) o.dst e st).force fun st1 => decideAt ops i o.dst st1 (evOps P Γ rid ops bef k (i + 1) rest) else none
            else evOps P Γ rid ops bef k (i + 1) rest ⟨putTm st.tm o.dst .undef, st.rows, st.used⟩
          | .undef => evOps P Γ rid ops bef k (i + 1) rest ⟨putTm st.tm o.dst .undef, st.rows, st.used⟩
          | _ => none) = Option.bind (match o.guard with
        | none => evOp P Γ (rid * 64 + i) o st.tm rows fun e => if freshB (rid * 64 + i) e st.used then (apply (rid * 64 + i) o.dst e st).force fun st1 => decideAt ops i o.dst st1 (evOps P Γ rid ops bef some (i + 1) rest) else none
        | some (j, want) =>
          match guardAt ops st.tm j with
          | .bool b => bif b == want then
              evOp P Γ (rid * 64 + i) o st.tm rows fun e => if freshB (rid * 64 + i) e st.used then (apply (rid * 64 + i) o.dst e st).force fun st1 => decideAt ops i o.dst st1 (evOps P Γ rid ops bef some (i + 1) rest) else none
            else evOps P Γ rid ops bef some (i + 1) rest ⟨putTm st.tm o.dst .undef, st.rows, st.used⟩
          | .undef => evOps P Γ rid ops bef some (i + 1) rest ⟨putTm st.tm o.dst .undef, st.rows, st.used⟩
          | _ => none) k := fun rows => by
      cases o.guard with
      | none => exact run _
      | some p =>
        obtain ⟨j, want⟩ := p
        simp only
        cases guardAt ops st.tm j <;> try rfl
        · exact ih _
        · rename_i b
          simp only
          generalize (b == want) = c
          cases c
          · exact ih _
          · exact run _
    exact fin _

theorem evC_bind (hN : NatOK Γ) (hfk : Γ.fork = false) : ∀ (c : Code), KOK P Γ K c → ∀ (ρ : Type) (st : St) (k : Ex → St → Option ρ), evC P Γ K c ρ st k = (evC P Γ K c (Ex × St) st fun e st' => some (e, st')).bind fun p => k p.1 p.2 := by
  intro c
  induction c with
  | skip => intro _ ρ st k; rfl
  | label l => intro _ ρ st k; rfl
  | region id ops draw =>
    intro _ ρ st k
    simp only [evC]
    split
    · split
      · split
        · rw [evOps_bind hN, evOps_bind hN (k := fun st' => some (Ex.normal, st'))]
          cases evOps P Γ id ops.toList (some (ancTab ops.toList)) some 0 ops.toList st <;> rfl
        · rfl
      · rw [evOps_bind hN, evOps_bind hN (k := fun st' => some (Ex.normal, st'))]
        cases evOps P Γ id ops.toList none some 0 ops.toList st <;> rfl
    · rfl
  | seq x z ihx ihz =>
    intro hK ρ st k
    simp only [evC]
    refine Eq.trans (ihx hK.seqL ρ st _) (Eq.symm (Eq.trans (congrArg (fun o => Option.bind o _) (ihx hK.seqL (Ex × St) st _)) ?_))
    cases evC P Γ K x (Ex × St) st fun e st' => some (e, st') with
    | none => rfl
    | some p =>
      obtain ⟨e, st'⟩ := p
      cases e with
      | normal => exact (ihz hK.seqR ρ st' k).symm
      | exit i => rfl
      | ret => rfl
  | cond c x z ihx ihz =>
    intro hK ρ st k
    simp only [evC]
    split
    · rename_i t _
      cases t
      · exact ihz hK.condR ρ st k
      · exact ihx hK.condL ρ st k
    · rw [hfk]; rfl
    · rfl
  | block id b ih =>
    intro hK ρ st k
    simp only [evC]
    refine Eq.trans (ih hK.block ρ st _) (Eq.symm (Eq.trans (congrArg (fun o => Option.bind o _) (ih hK.block (Ex × St) st _)) ?_))
    cases evC P Γ K b (Ex × St) st fun e st' => some (e, st') with
    | none => rfl
    | some p =>
      obtain ⟨e, st'⟩ := p
      cases e with
      | normal => rfl
      | ret => rfl
      | exit i => simp only [Option.bind_some]; split <;> rfl
  | loop b ih =>
    intro hK ρ st k
    simp only [evC]
    split
    · rename_i l hl
      split
      · rw [St.force_eq, St.force_eq]
        have hn := (hK b (by simp [loopsOf]) l hl).2
        rw [hn, hn (k := fun e vs rs => some (e, expand l.N vs rs))]
        generalize l.L _ _ _ _ = x
        cases x <;> rfl
      · rfl
    · rfl
  | exit id => intro _ ρ st k; rfl
  | ret => intro _ ρ st k; rfl
  | rangeFunc f params assign body _ _ => intro _ ρ st k; rfl
  | scope b _ => intro _ ρ st k; rfl
  | goto l => intro _ ρ st k; rfl
  | refuse why => intro _ ρ st k; rfl

/-- What follows a round. -/
def after (l : Loop) (μ : List AV → List (Option Row) → Nat) (m : Nat) {ρ : Type} (k : Ex → List AV → List (Option Row) → Option ρ) (e : Ex) (st : St) : Option ρ :=
  if Nat.beq st.tm.length l.N.len then (norm l.N st).force fun st1 => (match e with
    | .normal => bif decide (μ (valsOf l.N st1) (rowsN l.N st1) < m) then l.L ρ (valsOf l.N st1) (rowsN l.N st1) k else none
    | e => k e (valsOf l.N st1) (rowsN l.N st1)) else none

theorem loopOK_of (hN : NatOK Γ) (hfk : Γ.fork = false) {b : Code} {l : Loop} (hK : KOK P Γ K b) (μ : List AV → List (Option Row) → Nat)
    (hround : ∀ (ρ : Type) (vs : List AV) (rs : List (Option Row)) (k : Ex → List AV → List (Option Row) → Option ρ) (r : ρ), l.L ρ vs rs k = some r → evC P Γ K b ρ (expand l.N vs rs) (after l μ (μ vs rs) k) = some r)
    (hnat : ∀ (ρ : Type) (vs : List AV) (rs : List (Option Row)) (k : Ex → List AV → List (Option Row) → Option ρ), l.L ρ vs rs k = (l.L (Ex × List AV × List (Option Row)) vs rs fun e v x => some (e, v, x)).bind fun q => k q.1 q.2.1 q.2.2) : LoopOK P Γ K b l := by
  refine ⟨?_, hnat⟩
  intro ρ vs rs k r h
  generalize hm : μ vs rs = m
  induction m using Nat.strongRecOn generalizing vs rs with
  | ind m ih =>
    subst hm
    have h1 := hround ρ vs rs k r h
    rw [evC_bind hN hfk b hK] at h1
    cases hb : evC P Γ K b (Ex × St) (expand l.N vs rs) fun e st' => some (e, st') with
    | none => rw [hb] at h1; cases h1
    | some q =>
      rw [hb, Option.bind_some] at h1
      obtain ⟨e, st'⟩ := q
      unfold after at h1
      split at h1
      · rename_i hlen
        rw [St.force_eq] at h1
        have fin : ∀ (e' : Ex), e' ≠ .normal → e = e' → k e' (valsOf l.N (norm l.N st')) (rowsN l.N (norm l.N st')) = some r → ∃ m p, iter l.N (fun st => evC P Γ K b (Ex × St) st fun e st' => some (e, st')) m vs rs = some p ∧ k p.1 p.2.1 p.2.2 = some r := by
          intro e' hne he hk
          subst he
          refine ⟨1, (e, valsOf l.N (norm l.N st'), rowsN l.N (norm l.N st')), ?_, hk⟩
          cases e with
          | normal => exact absurd rfl hne
          | exit i => simp only [iter, hb, hlen, if_true]
          | ret => simp only [iter, hb, hlen, if_true]
        cases e with
        | normal =>
          obtain ⟨hlt, h2⟩ := bif_some h1
          have hlt' := of_decide_eq_true hlt
          obtain ⟨m, p, i1, i2⟩ := ih _ hlt' _ _ h2 rfl
          exact ⟨m + 1, p, by simp only [iter, hb, hlen, if_true]; exact i1, i2⟩
        | exit i => exact fin _ (by simp) rfl h1
        | ret => exact fin _ (by simp) rfl h1
      · cases h1

theorem finish_bind {ρ : Type} (fn : Func) (st : St) (k : AV → Option ρ) : finish P fn st k = (finish P fn st some).bind k := by
  unfold finish
  repeat' split
  all_goals rfl
theorem snat_evF (hN : NatOK Γ) (hfk : Γ.fork = false) {fn : Func} (hK : ∀ c, fn.body = some c → KOK P Γ K c) : SNat (evF P Γ K fn) := by
  intro ρ avs k
  unfold evF
  split
  · rfl
  · rename_i c hc
    rw [St.force_eq, St.force_eq]
    refine Eq.trans (evC_bind hN hfk c (hK c hc) ρ _ _) (Eq.symm (Eq.trans (congrArg (fun o => Option.bind o _) (evC_bind hN hfk c (hK c hc) AV _ _)) ?_))
    cases evC P Γ K c (Ex × St) (St.mk (avs ++ List.replicate (fn.ntmps - avs.length) .undef) [] []) fun e st' => some (e, st') with
    | none => rfl
    | some p =>
      obtain ⟨e, st'⟩ := p
      cases e with
      | normal => exact (finish_bind fn st' k).symm
      | ret => exact (finish_bind fn st' k).symm
      | exit i => rfl
/-- A function is taken as its text says. -/
theorem sumOK_inline (hΓ : GOK P Γ) (hD : DrawOK P Γ) {f : FuncId} {fn : Func} (hfn : P.funcs[f]? = some fn) (hK : ∀ c, fn.body = some c → KOK P Γ K c) : SumOK P f (evF P Γ K fn) :=
  sumOK_of hΓ hD hfn fun _ _ _ _ h => ⟨K, hK, h⟩

theorem finishX_bind {ρ : Type} (fn : Func) (np : Nat) (st : St) (k : AV → List (Option Row) → List Row → Option ρ) : finishX P fn np st k = (finishX P fn np st fun v p n => some (v, p, n)).bind fun x => k x.1 x.2.1 x.2.2 := by
  unfold finishX
  split
  · rfl
  · split
    · rfl
    · simp only
      split
      · rfl
      · split <;> rfl
theorem homes_bind {ρ σ : Type} (k : St → Option ρ) (k' : St → Option σ) (g : σ → Option ρ) (h : ∀ st, k st = (k' st).bind g) : ∀ (H : List (Nat × Nat × TypeId)) (st : St), homes H st k = (homes H st k').bind g
  | [], st => h st
  | x :: H, st => by
    have ih := homes_bind k k' g h H
    simp only [homes, homeK]
    repeat' split
    all_goals first | exact ih _ | (generalize Nat.ble _ _ = c; cases c <;> first | rfl | exact ih _)
theorem xnat_evFX (hN : NatOK Γ) (hfk : Γ.fork = false) {fn : Func} (H : List (Nat × Nat × TypeId)) (hK : ∀ c, fn.body = some c → KOK P Γ K c) : XNat (evFX P Γ K H fn) := by
  intro ρ avs rows k
  unfold evFX
  split
  · rfl
  · rename_i c hc
    rw [St.force_eq, St.force_eq]
    refine Eq.trans (evC_bind hN hfk c (hK c hc) ρ _ _) (Eq.symm (Eq.trans (congrArg (fun o => Option.bind o _) (evC_bind hN hfk c (hK c hc) _ _ _)) ?_))
    cases evC P Γ K c (Ex × St) (St.mk (avs ++ List.replicate (fn.ntmps - avs.length) .undef) (zipIds PID rows) (List.range' PID rows.length)) fun e st' => some (e, st') with
    | none => rfl
    | some p =>
      obtain ⟨e, st'⟩ := p
      cases e with
      | normal => exact (homes_bind _ _ _ (fun st => finishX_bind fn _ st k) H st').symm
      | ret => exact (homes_bind _ _ _ (fun st => finishX_bind fn _ st k) H st').symm
      | exit i => rfl

/-- A function more is known. -/
theorem GOK.cons {f : Nat} {F : Summ} (hΓ : GOK P Γ) (hF : SumOK P f F) (hn : SNat F) : GOK P { Γ with pure := (f, F) :: Γ.pure } := by
  refine ⟨fun g G h => ?_, fun g G h => ?_, hΓ.opens, hΓ.nat⟩
  · simp only [find, findIn] at h
    split at h
    · rename_i e; cases h; subst e; exact hF
    · exact hΓ.pure g G h
  · simp only [find, findIn] at h
    split at h
    · cases h; exact hn
    · exact hΓ.snat g G h
theorem GOK.consX {f : Nat} {F : SummX} (hΓ : GOK P Γ) (hF : XOK P f F) (hn : XNat F) : GOK P { Γ with opens := (f, F) :: Γ.opens } := by
  refine ⟨hΓ.pure, hΓ.snat, fun g G h => ?_, fun g G h => ?_⟩
  · simp only [findX, findIn] at h
    split at h
    · rename_i e; cases h; subst e; exact hF
    · exact hΓ.opens g G h
  · simp only [findX, findIn] at h
    split at h
    · cases h; exact hn
    · exact hΓ.nat g G h
theorem GOK.empty : GOK P ⟨[], [], false, [], false⟩ := ⟨fun _ _ h => (by cases h), fun _ _ h => (by cases h), fun _ _ h => (by cases h), fun _ _ h => (by cases h)⟩
theorem GOK.flags {t fk : Bool} {e : List Nat} (hΓ : GOK P Γ) : GOK P { Γ with tmpX := t, ext := e, fork := fk } := ⟨hΓ.pure, hΓ.snat, hΓ.opens, hΓ.nat⟩

theorem KOK.nil {c : Code} (h : loopsOf c = []) : KOK P Γ K c := fun b hb => by rw [h] at hb; cases hb
theorem KOK.one {c b : Code} {l : Loop} (h : loopsOf c = [b]) (hf : findIn K (firstRegion b) = some l) (hl : LoopOK P Γ K b l) : KOK P Γ K c := fun b' hb' l' hl' => by
  rw [h] at hb'
  simp at hb'
  subst hb'
  rw [hf] at hl'
  cases hl'
  exact hl
theorem KOK.all {c : Code} {bs : List Code} (h : loopsOf c = bs) (hl : ∀ b ∈ bs, ∃ l, findIn K (firstRegion b) = some l ∧ LoopOK P Γ K b l) : KOK P Γ K c := fun b hb l hf => by
  rw [h] at hb
  obtain ⟨l', h1, h2⟩ := hl b hb
  rw [h1] at hf
  cases hf
  exact h2
end nat
end Go.Ev
