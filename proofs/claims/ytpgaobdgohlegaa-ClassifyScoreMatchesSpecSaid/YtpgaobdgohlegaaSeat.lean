/-
  Small helps for a seat's program.
-/
import Derived.Test.YtpgaobdgohlegaaEvV
import Derived.Test.YtpgaobdgohlegaaEvX
import Derived.Test.YtpgaobdgohlegaaChecked
import Derived.KernelRfl
namespace Go.Proofs.Ytpgaobdgohlegaa
open Go.Ev


theorem hmix : Try.prog.follows .mixedOrders = true := by kernel_rfl
theorem inl {Γ : Env} (hΓ : GOK Try.prog Γ) {f : Nat} {fn : Func} (hfn : Try.prog.funcs[f]? = some fn) (hl : fn.body.map loopsOf = some []) (hfk : Γ.fork = false := by rfl) : SumOK Try.prog f (evF Try.prog Γ [] fn) ∧ SNat (evF Try.prog Γ [] fn) := by
  have hK : ∀ c, fn.body = some c → KOK Try.prog Γ [] c := fun c hc => KOK.nil (by rw [hc] at hl; simpa using hl)
  exact ⟨sumOK_inline hΓ (drawOK hΓ hmix) hfn hK, snat_evF hΓ.natOK hfk hK⟩
/-- A function by what it comes to, its text has no loop. -/
theorem sum0 {Γ : Env} (hΓ : GOK Try.prog Γ) {f : Nat} {fn : Func} (hfn : Try.prog.funcs[f]? = some fn) (hl : fn.body.map loopsOf = some []) {F : Summ} (hF : ∀ ρ avs k r, F ρ avs k = some r → evF Try.prog Γ [] fn ρ avs k = some r) : SumOK Try.prog f F :=
  sumOK_of hΓ (drawOK hΓ hmix) hfn fun ρ avs k r h => ⟨[], fun c hc => KOK.nil (by rw [hc] at hl; simpa using hl), hF ρ avs k r h⟩
theorem GOK.also {Γ : Env} {f : Nat} {F : Summ} (hΓ : GOK Try.prog Γ) (h : SumOK Try.prog f F ∧ SNat F) : GOK Try.prog { Γ with pure := (f, F) :: Γ.pure } := hΓ.cons h.1 h.2
theorem GOK.alsoX {Γ : Env} {f : Nat} {F : SummX} (hΓ : GOK Try.prog Γ) (h : XOK Try.prog f F ∧ XNat F) : GOK Try.prog { Γ with opens := (f, F) :: Γ.opens } := hΓ.consX h.1 h.2
/-- A function with one loop. -/
theorem sum1 {Γ : Env} {K : List (Nat × Ev.Loop)} (hΓ : GOK Try.prog Γ) {f : Nat} {fn : Func} (hfn : Try.prog.funcs[f]? = some fn) {b : Code} {l : Ev.Loop} (hl : fn.body.map loopsOf = some [b]) (hf : findIn K (firstRegion b) = some l) (hL : LoopOK Try.prog Γ K b l)
    {F : Summ} (hF : ∀ ρ avs k r, F ρ avs k = some r → evF Try.prog Γ K fn ρ avs k = some r) : SumOK Try.prog f F :=
  sumOK_of hΓ (drawOK hΓ hmix) hfn fun ρ avs k r h => ⟨K, fun c hc => KOK.one (by rw [hc] at hl; simpa using hl) hf hL, hF ρ avs k r h⟩
/-- A function with some loops. -/
theorem sums {Γ : Env} {K : List (Nat × Ev.Loop)} (hΓ : GOK Try.prog Γ) {f : Nat} {fn : Func} (hfn : Try.prog.funcs[f]? = some fn) {bs : List Code} (hl : fn.body.map loopsOf = some bs) (hL : ∀ b ∈ bs, ∃ l, findIn K (firstRegion b) = some l ∧ LoopOK Try.prog Γ K b l)
    {F : Summ} (hF : ∀ ρ avs k r, F ρ avs k = some r → evF Try.prog Γ K fn ρ avs k = some r) : SumOK Try.prog f F :=
  sumOK_of hΓ (drawOK hΓ hmix) hfn fun ρ avs k r h => ⟨K, fun c hc => KOK.all (by rw [hc] at hl; simpa using hl) hL, hF ρ avs k r h⟩
theorem xsums {Γ : Env} {K : List (Nat × Ev.Loop)} {H : List (Nat × Nat × TypeId)} (hΓ : GOK Try.prog Γ) {f : Nat} {fn : Func} (hfn : Try.prog.funcs[f]? = some fn) {bs : List Code} (hl : fn.body.map loopsOf = some bs) (hL : ∀ b ∈ bs, ∃ l, findIn K (firstRegion b) = some l ∧ LoopOK Try.prog Γ K b l)
    {F : SummX} (hF : ∀ ρ avs rows k r, F ρ avs rows k = some r → rows.length ≤ 1000000 ∧ ∀ rows', Spared rows rows' → evFX Try.prog Γ K H fn ρ avs rows' k = some r) : XOK Try.prog f F :=
  xok_of hΓ (drawOK hΓ hmix) hfn fun ρ avs rows k r h => ⟨(hF ρ avs rows k r h).1, fun rows' hs => ⟨K, H, fun c hc => KOK.all (by rw [hc] at hl; simpa using hl) hL, (hF ρ avs rows k r h).2 rows' hs⟩⟩
theorem xsum1 {Γ : Env} {K : List (Nat × Ev.Loop)} {H : List (Nat × Nat × TypeId)} (hΓ : GOK Try.prog Γ) {f : Nat} {fn : Func} (hfn : Try.prog.funcs[f]? = some fn) {b : Code} {l : Ev.Loop} (hl : fn.body.map loopsOf = some [b]) (hf : findIn K (firstRegion b) = some l) (hL : LoopOK Try.prog Γ K b l)
    {F : SummX} (hF : ∀ ρ avs rows k r, F ρ avs rows k = some r → rows.length ≤ 1000000 ∧ ∀ rows', Spared rows rows' → evFX Try.prog Γ K H fn ρ avs rows' k = some r) : XOK Try.prog f F :=
  xok_of hΓ (drawOK hΓ hmix) hfn fun ρ avs rows k r h => ⟨(hF ρ avs rows k r h).1, fun rows' hs => ⟨K, H, fun c hc => KOK.one (by rw [hc] at hl; simpa using hl) hf hL, (hF ρ avs rows k r h).2 rows' hs⟩⟩
theorem xsum0 {Γ : Env} {H : List (Nat × Nat × TypeId)} (hΓ : GOK Try.prog Γ) {f : Nat} {fn : Func} (hfn : Try.prog.funcs[f]? = some fn) (hl : fn.body.map loopsOf = some [])
    {F : SummX} (hF : ∀ ρ avs rows k r, F ρ avs rows k = some r → rows.length ≤ 1000000 ∧ ∀ rows', Spared rows rows' → evFX Try.prog Γ [] H fn ρ avs rows' k = some r) : XOK Try.prog f F :=
  xok_of hΓ (drawOK hΓ hmix) hfn fun ρ avs rows k r h => ⟨(hF ρ avs rows k r h).1, fun rows' hs => ⟨[], H, fun c hc => KOK.nil (by rw [hc] at hl; simpa using hl), (hF ρ avs rows k r h).2 rows' hs⟩⟩

end Go.Proofs.Ytpgaobdgohlegaa
