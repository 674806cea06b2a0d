/-
  What is known of functions and loops, written as trees: then it hangs on nothing but its arguments.
-/
import Derived.Test.YtpgaobdgohlegaaSeat
import Derived.Test.YtpgaobdgohlegaaFind
namespace Go.Ev

inductive Tr (α : Type) where
  | no : Tr α
  | leaf (a : α) : Tr α
  | br (c : Bool) (x y : Tr α) : Tr α
def Tr.run {α ρ : Type} (t : Tr α) (k : α → Option ρ) : Option ρ :=
  match t with
  | .no => none
  | .leaf a => k a
  | .br c x y => bif c then x.run k else y.run k
theorem Tr.run_bind {α ρ σ : Type} (f : α → Option σ) (k : σ → Option ρ) : ∀ t : Tr α, t.run (fun a => (f a).bind k) = (t.run f).bind k
  | .no => rfl
  | .leaf _ => rfl
  | .br c x y => by
    show (bif c then x.run _ else y.run _) = (bif c then x.run f else y.run f).bind k
    rw [Tr.run_bind f k x, Tr.run_bind f k y]
    cases c <;> rfl
def Tr.gd {α : Type} (c : Bool) (t : Tr α) : Tr α := .br c t .no
theorem gd_some {α ρ : Type} {c : Bool} {t : Tr α} {k : α → Option ρ} {r : ρ} (h : (Tr.gd c t).run k = some r) : c = true ∧ t.run k = some r := by
  cases c
  · cases h
  · exact ⟨rfl, h⟩
def ofT (p : List AV → Tr AV) : Summ := fun _ avs k => (p avs).run k
theorem snat_ofT (p : List AV → Tr AV) : SNat (ofT p) := fun _ avs k => Tr.run_bind (σ := AV) some k (p avs)
abbrev LOut := Ex × List AV × List (Option Row)
def ofL (p : List AV → List (Option Row) → Tr LOut) : LSumm := fun _ vs rs k => (p vs rs).run fun q => k q.1 q.2.1 q.2.2
abbrev XOut := AV × List (Option Row) × List Row
def ofX (p : List AV → List Row → Tr XOut) : SummX := fun _ avs rows k => (p avs rows).run fun q => k q.1 q.2.1 q.2.2
theorem xnat_ofX (p : List AV → List Row → Tr XOut) : XNat (ofX p) := fun _ avs rows k => Tr.run_bind (α := XOut) (σ := XOut) (fun q => some (q.1, q.2.1, q.2.2)) (fun q => k q.1 q.2.1 q.2.2) (p avs rows)
theorem loopT {P : Program} {Γ : Env} {K : List (Nat × Loop)} (hN : NatOK Γ) (hfk : Γ.fork = false) {b : Code} {N : Norm} {p : List AV → List (Option Row) → Tr LOut} (hK : KOK P Γ K b) (μ : List AV → List (Option Row) → Nat)
    (hround : ∀ (ρ : Type) (vs : List AV) (rs : List (Option Row)) (k : Ex → List AV → List (Option Row) → Option ρ) (r : ρ), (p vs rs).run (fun q => k q.1 q.2.1 q.2.2) = some r → evC P Γ K b ρ (expand N vs rs) (after ⟨N, ofL p⟩ μ (μ vs rs) k) = some r) : LoopOK P Γ K b ⟨N, ofL p⟩ :=
  loopOK_of hN hfk hK μ hround fun _ vs rs k => Tr.run_bind (α := LOut) (σ := LOut) (fun q => some (q.1, q.2.1, q.2.2)) (fun q => k q.1 q.2.1 q.2.2) (p vs rs)
/-- A loop that looks for a place. -/
def sT {α : Type} (p : Nat → Bool) (n : Nat) (A : Nat → Tr α) (B : Tr α) (j : Nat) : Tr α := .br (findN p n j).isSome (A ((findN p n j).getD 0)) B
theorem sT_step {α : Type} (p : Nat → Bool) (n : Nat) (A : Nat → Tr α) (B : Tr α) (j : Nat) (h : j < n) {ρ : Type} (k : α → Option ρ) : (sT p n A B j).run k = bif p j then (A j).run k else (sT p n A B (j + 1)).run k := by
  unfold sT
  show cond _ ((A ((findN p n j).getD 0)).run k) (B.run k) = bif p j then (A j).run k else cond _ ((A ((findN p n (j + 1)).getD 0)).run k) (B.run k)
  rw [findN_step p n j h]
  cases p j <;> rfl
theorem sT_end {α : Type} (p : Nat → Bool) (n : Nat) (A : Nat → Tr α) (B : Tr α) {ρ : Type} (k : α → Option ρ) : (sT p n A B n).run k = B.run k := by
  unfold sT
  rw [findN_end p n n (Nat.le_refl _)]
  rfl
/-- What a round of a counting loop asks. -/
theorem cnt_facts {m j : Nat} (h : j < m) (hs : m ≤ 9223372036854775807) : decide ((j : Int) < (m : Int)) = true ∧ inb (j : Int) m = true ∧ IntKind.i64.wrap ((j : Int) + 1) = ((j + 1 : Nat) : Int) ∧ cnt m ((j + 1 : Nat) : Int) m = true ∧ decide (((m : Int) - ((j + 1 : Nat) : Int)).toNat < ((m : Int) - (j : Int)).toNat) = true := by
  refine ⟨decide_eq_true (by omega), inb_true (by omega) (by omega), ?_, ?_, decide_eq_true (by omega)⟩
  · rw [wrap_small _ (by omega) (by omega)]; omega
  · exact and_tt (decide_eq_true rfl) (and_tt (decide_eq_true (by omega)) (and_tt (decide_eq_true (by omega)) (decide_eq_true hs)))
end Go.Ev
namespace Go.Proofs.Ytpgaobdgohlegaa
open Go.Ev
theorem fnT {Γ : Env} {K : List (Nat × Ev.Loop)} (hΓ : GOK Try.prog Γ) {f : Nat} {fn : Func} (hfn : Try.prog.funcs[f]? = some fn) {bs : List Code} (hl : fn.body.map loopsOf = some bs) (hL : ∀ b ∈ bs, ∃ l, findIn K (firstRegion b) = some l ∧ LoopOK Try.prog Γ K b l)
    {p : List AV → Tr AV} (hF : ∀ ρ avs k r, (p avs).run k = some r → evF Try.prog Γ K fn ρ avs k = some r) : SumOK Try.prog f (ofT p) ∧ SNat (ofT p) :=
  ⟨sums hΓ hfn hl hL hF, snat_ofT p⟩
theorem fn0 {Γ : Env} (hΓ : GOK Try.prog Γ) {f : Nat} {fn : Func} (hfn : Try.prog.funcs[f]? = some fn) (hl : fn.body.map loopsOf = some [])
    {p : List AV → Tr AV} (hF : ∀ ρ avs k r, (p avs).run k = some r → evF Try.prog Γ [] fn ρ avs k = some r) : SumOK Try.prog f (ofT p) ∧ SNat (ofT p) :=
  ⟨sum0 hΓ hfn hl hF, snat_ofT p⟩
theorem fn1 {Γ : Env} {K : List (Nat × Ev.Loop)} (hΓ : GOK Try.prog Γ) {f : Nat} {fn : Func} (hfn : Try.prog.funcs[f]? = some fn) {b : Code} {l : Ev.Loop} (hl : fn.body.map loopsOf = some [b]) (hf : findIn K (firstRegion b) = some l) (hL : LoopOK Try.prog Γ K b l)
    {p : List AV → Tr AV} (hF : ∀ ρ avs k r, (p avs).run k = some r → evF Try.prog Γ K fn ρ avs k = some r) : SumOK Try.prog f (ofT p) ∧ SNat (ofT p) :=
  ⟨sum1 hΓ hfn hl hf hL hF, snat_ofT p⟩
end Go.Proofs.Ytpgaobdgohlegaa
