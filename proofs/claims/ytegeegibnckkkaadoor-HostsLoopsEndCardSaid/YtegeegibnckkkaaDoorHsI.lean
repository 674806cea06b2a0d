/-
  strings.Split with a separator of one byte; the document's Cut.
-/
import Derived.Test.YtegeegibnckkkaaDoorEvX
import Derived.Test.YtegeegibnckkkaaDoorChecked
import Derived.KernelRfl
/-
  Small helps for a seat's program.
-/
namespace Go.Proofs.YtegeegibnckkkaaDoor
open Go.Ev


theorem hmix : Tryd.prog.follows .mixedOrders = true := by kernel_rfl
theorem inl {Γ : Env} (hΓ : GOK Tryd.prog Γ) {f : Nat} {fn : Func} (hfn : Tryd.prog.funcs[f]? = some fn) (hl : fn.body.map loopsOf = some []) (hfk : Γ.fork = false := by rfl) : SumOK Tryd.prog f (evF Tryd.prog Γ [] fn) ∧ SNat (evF Tryd.prog Γ [] fn) := by
  have hK : ∀ c, fn.body = some c → KOK Tryd.prog Γ [] c := fun c hc => KOK.nil (by rw [hc] at hl; simpa using hl)
  exact ⟨sumOK_inline hΓ (drawOK hΓ hmix) hfn hK, snat_evF hΓ.natOK hfk hK⟩
/-- A function by what it comes to, its text has no loop. -/
theorem sum0 {Γ : Env} (hΓ : GOK Tryd.prog Γ) {f : Nat} {fn : Func} (hfn : Tryd.prog.funcs[f]? = some fn) (hl : fn.body.map loopsOf = some []) {F : Summ} (hF : ∀ ρ avs k r, F ρ avs k = some r → evF Tryd.prog Γ [] fn ρ avs k = some r) : SumOK Tryd.prog f F :=
  sumOK_of hΓ (drawOK hΓ hmix) hfn fun ρ avs k r h => ⟨[], fun c hc => KOK.nil (by rw [hc] at hl; simpa using hl), hF ρ avs k r h⟩
theorem GOK.also {Γ : Env} {f : Nat} {F : Summ} (hΓ : GOK Tryd.prog Γ) (h : SumOK Tryd.prog f F ∧ SNat F) : GOK Tryd.prog { Γ with pure := (f, F) :: Γ.pure } := hΓ.cons h.1 h.2
theorem GOK.alsoX {Γ : Env} {f : Nat} {F : SummX} (hΓ : GOK Tryd.prog Γ) (h : XOK Tryd.prog f F ∧ XNat F) : GOK Tryd.prog { Γ with opens := (f, F) :: Γ.opens } := hΓ.consX h.1 h.2
/-- A function with one loop. -/
theorem sum1 {Γ : Env} {K : List (Nat × Ev.Loop)} (hΓ : GOK Tryd.prog Γ) {f : Nat} {fn : Func} (hfn : Tryd.prog.funcs[f]? = some fn) {b : Code} {l : Ev.Loop} (hl : fn.body.map loopsOf = some [b]) (hf : findIn K (firstRegion b) = some l) (hL : LoopOK Tryd.prog Γ K b l)
    {F : Summ} (hF : ∀ ρ avs k r, F ρ avs k = some r → evF Tryd.prog Γ K fn ρ avs k = some r) : SumOK Tryd.prog f F :=
  sumOK_of hΓ (drawOK hΓ hmix) hfn fun ρ avs k r h => ⟨K, fun c hc => KOK.one (by rw [hc] at hl; simpa using hl) hf hL, hF ρ avs k r h⟩
/-- A function with some loops. -/
theorem sums {Γ : Env} {K : List (Nat × Ev.Loop)} (hΓ : GOK Tryd.prog Γ) {f : Nat} {fn : Func} (hfn : Tryd.prog.funcs[f]? = some fn) {bs : List Code} (hl : fn.body.map loopsOf = some bs) (hL : ∀ b ∈ bs, ∃ l, findIn K (firstRegion b) = some l ∧ LoopOK Tryd.prog Γ K b l)
    {F : Summ} (hF : ∀ ρ avs k r, F ρ avs k = some r → evF Tryd.prog Γ K fn ρ avs k = some r) : SumOK Tryd.prog f F :=
  sumOK_of hΓ (drawOK hΓ hmix) hfn fun ρ avs k r h => ⟨K, fun c hc => KOK.all (by rw [hc] at hl; simpa using hl) hL, hF ρ avs k r h⟩
theorem xsums {Γ : Env} {K : List (Nat × Ev.Loop)} {H : List (Nat × Nat × TypeId)} (hΓ : GOK Tryd.prog Γ) {f : Nat} {fn : Func} (hfn : Tryd.prog.funcs[f]? = some fn) {bs : List Code} (hl : fn.body.map loopsOf = some bs) (hL : ∀ b ∈ bs, ∃ l, findIn K (firstRegion b) = some l ∧ LoopOK Tryd.prog Γ K b l)
    {F : SummX} (hF : ∀ ρ avs rows k r, F ρ avs rows k = some r → rows.length ≤ 1000000 ∧ ∀ rows', Spared rows rows' → evFX Tryd.prog Γ K H fn ρ avs rows' k = some r) : XOK Tryd.prog f F :=
  xok_of hΓ (drawOK hΓ hmix) hfn fun ρ avs rows k r h => ⟨(hF ρ avs rows k r h).1, fun rows' hs => ⟨K, H, fun c hc => KOK.all (by rw [hc] at hl; simpa using hl) hL, (hF ρ avs rows k r h).2 rows' hs⟩⟩
theorem xsum1 {Γ : Env} {K : List (Nat × Ev.Loop)} {H : List (Nat × Nat × TypeId)} (hΓ : GOK Tryd.prog Γ) {f : Nat} {fn : Func} (hfn : Tryd.prog.funcs[f]? = some fn) {b : Code} {l : Ev.Loop} (hl : fn.body.map loopsOf = some [b]) (hf : findIn K (firstRegion b) = some l) (hL : LoopOK Tryd.prog Γ K b l)
    {F : SummX} (hF : ∀ ρ avs rows k r, F ρ avs rows k = some r → rows.length ≤ 1000000 ∧ ∀ rows', Spared rows rows' → evFX Tryd.prog Γ K H fn ρ avs rows' k = some r) : XOK Tryd.prog f F :=
  xok_of hΓ (drawOK hΓ hmix) hfn fun ρ avs rows k r h => ⟨(hF ρ avs rows k r h).1, fun rows' hs => ⟨K, H, fun c hc => KOK.one (by rw [hc] at hl; simpa using hl) hf hL, (hF ρ avs rows k r h).2 rows' hs⟩⟩
theorem xsum0 {Γ : Env} {H : List (Nat × Nat × TypeId)} (hΓ : GOK Tryd.prog Γ) {f : Nat} {fn : Func} (hfn : Tryd.prog.funcs[f]? = some fn) (hl : fn.body.map loopsOf = some [])
    {F : SummX} (hF : ∀ ρ avs rows k r, F ρ avs rows k = some r → rows.length ≤ 1000000 ∧ ∀ rows', Spared rows rows' → evFX Tryd.prog Γ [] H fn ρ avs rows' k = some r) : XOK Tryd.prog f F :=
  xok_of hΓ (drawOK hΓ hmix) hfn fun ρ avs rows k r h => ⟨(hF ρ avs rows k r h).1, fun rows' hs => ⟨[], H, fun c hc => KOK.nil (by rw [hc] at hl; simpa using hl), (hF ρ avs rows k r h).2 rows' hs⟩⟩

end Go.Proofs.YtegeegibnckkkaaDoor

/-
  The first element that meets a test, from a place on.
-/
namespace Go.Ev

def findFrom (p : AV → Bool) (es : List AV) (i : Nat) : Option Nat := ((es.drop i).findIdx? p).map (· + i)
def idxZ : Option Nat → Int
  | some j => j
  | none => -1
theorem findFrom_step (p : AV → Bool) (es : List AV) (i : Nat) (h : i < es.length) : findFrom p es i = bif p (es.getD i .unk) then some i else findFrom p es (i + 1) := by
  unfold findFrom
  rw [List.drop_eq_getElem_cons h, List.findIdx?_cons]
  have e : es.getD i .unk = es[i] := by simp [List.getD, h]
  rw [e]
  cases p es[i] with
  | true => simp
  | false => simp only [Bool.false_eq_true, if_false, cond_false, Option.map_map]; congr 1; funext j; simp; omega
theorem findFrom_end (p : AV → Bool) (es : List AV) (i : Nat) (h : es.length ≤ i) : findFrom p es i = none := by
  unfold findFrom
  rw [List.drop_of_length_le h]
  rfl
theorem wrap_small (n : Int) (h : -9223372036854775808 ≤ n) (h' : n ≤ 9223372036854775807) : IntKind.i64.wrap n = n := IntWalk.i64_in n ⟨h, h'⟩
theorem wrap_mid (n : Int) (h : -1000000000000 ≤ n) (h' : n ≤ 1000000000000) : IntKind.i64.wrap n = n := wrap_small n (Int.le_trans (by decide) h) (Int.le_trans h' (by decide))
/-- Small enough that no count of it passes the integers. -/
def small (n : Nat) : Bool := decide (n ≤ 9223372036854775807)
theorem small_le {n : Nat} (h : small n = true) : n ≤ 9223372036854775807 := of_decide_eq_true h
theorem tdiv_cases (a b : Int) : (0 ≤ a ∧ a.tdiv b = a / b) ∨ (a < 0 ∧ a.tdiv b = -((-a) / b)) := by
  rcases Int.lt_or_le a 0 with h | h
  · refine .inr ⟨h, ?_⟩
    rw [← Int.tdiv_eq_ediv_of_nonneg (by omega : 0 ≤ -a), Int.neg_tdiv, Int.neg_neg]
  · exact .inl ⟨h, Int.tdiv_eq_ediv_of_nonneg h⟩
theorem inb_true {i : Int} {n : Nat} (h0 : 0 ≤ i) (h : i < n) : inb i n = true := by simp [inb, h0, h]

theorem and_tt {a b : Bool} (h : a = true) (h' : b = true) : (a && b) = true := by rw [h, h']; rfl
theorem findFrom_none {p : AV → Bool} {es : List AV} (h : findFrom p es 0 = none) : ∀ x ∈ es, p x = false := by
  unfold findFrom at h
  rw [List.drop_zero] at h
  simpa using h
theorem findFrom_some {p : AV → Bool} {es : List AV} {i : Nat} (h : findFrom p es 0 = some i) : ∃ hi : i < es.length, p es[i] = true ∧ ∀ j (hj : j < i), p (es[j]'(by omega)) = false := by
  unfold findFrom at h
  rw [List.drop_zero] at h
  simp only [Option.map_eq_some_iff, Nat.add_zero, exists_eq_right] at h
  obtain ⟨h1, h2, h3⟩ := List.findIdx?_eq_some_iff_getElem.1 h
  exact ⟨h1, h2, fun j hj => by simpa using h3 j hj⟩
theorem filter_first {p : AV → Bool} {es : List AV} {i : Nat} (h : findFrom p es 0 = some i) : es.filter (fun x => !p x) = es.take i ++ (es.drop (i + 1)).filter (fun x => !p x) := by
  obtain ⟨hi, h1, h2⟩ := findFrom_some h
  conv => lhs; rw [← List.take_append_drop i es, List.drop_eq_getElem_cons hi]
  rw [List.filter_append, List.filter_cons, h1]
  have : (es.take i).filter (fun x => !p x) = es.take i := by
    rw [List.filter_eq_self]
    intro x hx
    obtain ⟨j, hj, he⟩ := List.getElem_of_mem hx
    have hj' : j < i := by simp at hj; omega
    rw [List.getElem_take] at he
    rw [← he, h2 j hj']
    rfl
  rw [this]
  rfl
/-- The first number from i on, below n, that meets a test. -/
def findN (p : Nat → Bool) (n i : Nat) : Option Nat := (List.range' i (n - i)).find? p
theorem findN_step (p : Nat → Bool) (n i : Nat) (h : i < n) : findN p n i = bif p i then some i else findN p n (i + 1) := by
  unfold findN
  rw [show n - i = (n - (i + 1)) + 1 from by omega, List.range'_succ, List.find?_cons]
  cases p i <;> rfl
theorem findN_end (p : Nat → Bool) (n i : Nat) (h : n ≤ i) : findN p n i = none := by
  unfold findN
  rw [show n - i = 0 from by omega]
  rfl
theorem findN_some {p : Nat → Bool} {n i q : Nat} (h : findN p n i = some q) : i ≤ q ∧ q < n ∧ p q = true ∧ ∀ j, i ≤ j → j < q → p j = false := by
  unfold findN at h
  obtain ⟨h1, ys, bs, h2, h3⟩ := List.find?_eq_some_iff_append.1 h
  have hm : q ∈ List.range' i (n - i) := by rw [h2]; simp
  rw [List.mem_range'_1] at hm
  refine ⟨hm.1, by omega, h1, fun j hj hjq => ?_⟩
  have hl := congrArg List.length h2
  have hq : (List.range' i (n - i))[ys.length]? = some q := by rw [h2]; simp
  have hal : ys.length < n - i := by
    rw [List.length_range', List.length_append, List.length_cons] at hl
    omega
  have hlen : ys.length = q - i := by
    rw [List.getElem?_range' hal] at hq
    simp at hq
    omega
  have hj2 : (List.range' i (n - i))[j - i]? = ys[j - i]? := by rw [h2, List.getElem?_append_left (by omega)]
  rw [List.getElem?_range' (by omega)] at hj2
  have hmem : j ∈ ys := List.mem_of_getElem? (i := j - i) (by rw [← hj2]; congr 1; omega)
  simpa using h3 j hmem
theorem findN_none {p : Nat → Bool} {n i : Nat} (h : findN p n i = none) : ∀ j, i ≤ j → j < n → p j = false := by
  unfold findN at h
  intro j hj hn
  have := List.find?_eq_none.1 h j (by rw [List.mem_range'_1]; omega)
  simpa using this
theorem findN_of_none {p : Nat → Bool} {n i : Nat} (h : ∀ j, i ≤ j → j < n → p j = false) : findN p n i = none := by
  unfold findN
  rw [List.find?_eq_none]
  intro j hj
  rw [List.mem_range'_1] at hj
  simp [h j hj.1 (by omega)]
theorem findN_congr {p q : Nat → Bool} {n i : Nat} (h : ∀ j, i ≤ j → j < n → p j = q j) : findN p n i = findN q n i := by
  generalize hm : n - i = m
  induction m generalizing i with
  | zero => rw [findN_end p n i (by omega), findN_end q n i (by omega)]
  | succ m ih => rw [findN_step p n i (by omega), findN_step q n i (by omega), h i (Nat.le_refl _) (by omega), ih (fun j hj hn => h j (by omega) hn) (by omega)]
/-- A loop that looks for a place, by what it comes to. -/
def sF {ρ : Type} (p : Nat → Bool) (n : Nat) (A : Nat → Option ρ) (B : Option ρ) (j : Nat) : Option ρ := bif (findN p n j).isSome then A ((findN p n j).getD 0) else B
theorem sF_step {ρ : Type} (p : Nat → Bool) (n : Nat) (A : Nat → Option ρ) (B : Option ρ) (j : Nat) (h : j < n) : sF p n A B j = bif p j then A j else sF p n A B (j + 1) := by
  unfold sF
  rw [findN_step p n j h]
  cases p j <;> rfl
theorem sF_end {ρ : Type} (p : Nat → Bool) (n : Nat) (A : Nat → Option ρ) (B : Option ρ) : sF p n A B n = B := by
  unfold sF
  rw [findN_end p n n (Nat.le_refl _)]
  rfl
theorem sF_bind {ρ σ : Type} (p : Nat → Bool) (n : Nat) (A : Nat → Option ρ) (B : Option ρ) (A' : Nat → Option σ) (B' : Option σ) (k : σ → Option ρ) (j : Nat) (hA : ∀ q, A q = (A' q).bind k) (hB : B = B'.bind k) : sF p n A B j = (sF p n A' B' j).bind k := by
  unfold sF
  cases (findN p n j).isSome
  · exact hB
  · exact hA _
theorem sF_ok {ρ : Type} {p : Nat → Bool} {n j : Nat} {A : Nat → Option ρ} {B T : Option ρ} {r : ρ} (h : sF p n A B j = some r) (hj : j ≤ n) (hT : j < n → T = bif p j then A j else sF p n A B (j + 1)) : (bif decide ((j : Int) < (n : Int)) then T else B) = some r := by
  by_cases hlt : j < n
  · rw [decide_eq_true (by omega : (j : Int) < n), ← h, sF_step _ _ _ _ _ hlt]
    exact hT hlt
  · have : j = n := by omega
    subst this
    rw [decide_eq_false (by omega), ← h, sF_end]
    rfl
/-- The guard of a counting loop. -/
def cnt (n i : Int) (m : Nat) : Bool := decide (n = m) && (decide (0 ≤ i) && (decide (i ≤ n) && small m))
theorem cnt_spec {n i : Int} {m : Nat} (h : cnt n i m = true) : n = m ∧ m ≤ 9223372036854775807 ∧ ∃ j : Nat, i = j ∧ j ≤ m := by
  simp only [cnt, Bool.and_eq_true, decide_eq_true_eq] at h
  obtain ⟨rfl, h0, h1, hs⟩ := h
  exact ⟨rfl, small_le hs, i.toNat, by omega, by omega⟩
theorem cnt_next {m j : Nat} (h : j < m) (hs : m ≤ 9223372036854775807) : cnt m (IntKind.i64.wrap ((j : Int) + 1)) m = true ∧ (IntKind.i64.wrap ((j : Int) + 1)).toNat = j + 1 := by
  rw [wrap_small _ (by omega) (by omega)]
  refine ⟨and_tt (decide_eq_true rfl) (and_tt (decide_eq_true (by omega)) (and_tt (decide_eq_true (by omega)) (decide_eq_true hs))), by omega⟩
theorem cnt_dec {m j : Nat} (h : j < m) (hs : m ≤ 9223372036854775807) : decide (((m : Int) - IntKind.i64.wrap ((j : Int) + 1)).toNat < ((m : Int) - (j : Int)).toNat) = true := by
  rw [wrap_small _ (by omega) (by omega)]
  exact decide_eq_true (by omega)
theorem cnt_zero {m : Nat} (hs : small m = true) : cnt m 0 m = true := and_tt (decide_eq_true rfl) (and_tt (decide_eq_true (by omega)) (and_tt (decide_eq_true (by omega)) hs))
theorem cond_t {α : Type} {b : Bool} {x y : α} (h : b = true) : cond b x y = x := by rw [h]; rfl
theorem cond_f {α : Type} {b : Bool} {x y : α} (h : b = false) : cond b x y = y := by rw [h]; rfl
theorem sF_next {ρ : Type} {p : Nat → Bool} {A : Nat → Option ρ} {B : Option ρ} {m j : Nat} (h : j < m) (hs : m ≤ 9223372036854775807) : (bif cnt m (IntKind.i64.wrap ((j : Int) + 1)) m then sF p m A B (IntKind.i64.wrap ((j : Int) + 1)).toNat else none) = sF p m A B (j + 1) :=
  (cond_t (cnt_next h hs).1).trans (congrArg (sF p m A B) (cnt_next h hs).2)
theorem and_t {a b : Bool} (h : a = true) (h' : b = true) : (a && b) = true := by rw [h, h']; rfl

end Go.Ev

/-
  What is known of functions and loops, written as trees: then it hangs on nothing but its arguments.
-/
namespace Go.Ev

inductive Tr (α : Type) where
  | no : Tr α
  | leaf (a : α) : Tr α
  | br (c : Bool) (x y : Tr α) : Tr α
def Tr.run {α ρ : Type} (t : Tr α) (k : α → Option ρ) : Option ρ :=
  match t with
  | .no => none
  | .leaf a => k a
  | .br c x y => bif c then x.run k else y.run k
theorem Tr.run_bind {α ρ σ : Type} (f : α → Option σ) (k : σ → Option ρ) : ∀ t : Tr α, t.run (fun a => (f a).bind k) = (t.run f).bind k
  | .no => rfl
  | .leaf _ => rfl
  | .br c x y => by
    show (bif c then x.run _ else y.run _) = (bif c then x.run f else y.run f).bind k
    rw [Tr.run_bind f k x, Tr.run_bind f k y]
    cases c <;> rfl
def Tr.gd {α : Type} (c : Bool) (t : Tr α) : Tr α := .br c t .no
theorem gd_some {α ρ : Type} {c : Bool} {t : Tr α} {k : α → Option ρ} {r : ρ} (h : (Tr.gd c t).run k = some r) : c = true ∧ t.run k = some r := by
  cases c
  · cases h
  · exact ⟨rfl, h⟩
def ofT (p : List AV → Tr AV) : Summ := fun _ avs k => (p avs).run k
theorem snat_ofT (p : List AV → Tr AV) : SNat (ofT p) := fun _ avs k => Tr.run_bind (σ := AV) some k (p avs)
abbrev LOut := Ex × List AV × List (Option Row)
def ofL (p : List AV → List (Option Row) → Tr LOut) : LSumm := fun _ vs rs k => (p vs rs).run fun q => k q.1 q.2.1 q.2.2
abbrev XOut := AV × List (Option Row) × List Row
def ofX (p : List AV → List Row → Tr XOut) : SummX := fun _ avs rows k => (p avs rows).run fun q => k q.1 q.2.1 q.2.2
theorem xnat_ofX (p : List AV → List Row → Tr XOut) : XNat (ofX p) := fun _ avs rows k => Tr.run_bind (α := XOut) (σ := XOut) (fun q => some (q.1, q.2.1, q.2.2)) (fun q => k q.1 q.2.1 q.2.2) (p avs rows)
theorem loopT {P : Program} {Γ : Env} {K : List (Nat × Loop)} (hN : NatOK Γ) (hfk : Γ.fork = false) {b : Code} {N : Norm} {p : List AV → List (Option Row) → Tr LOut} (hK : KOK P Γ K b) (μ : List AV → List (Option Row) → Nat)
    (hround : ∀ (ρ : Type) (vs : List AV) (rs : List (Option Row)) (k : Ex → List AV → List (Option Row) → Option ρ) (r : ρ), (p vs rs).run (fun q => k q.1 q.2.1 q.2.2) = some r → evC P Γ K b ρ (expand N vs rs) (after ⟨N, ofL p⟩ μ (μ vs rs) k) = some r) : LoopOK P Γ K b ⟨N, ofL p⟩ :=
  loopOK_of hN hfk hK μ hround fun _ vs rs k => Tr.run_bind (α := LOut) (σ := LOut) (fun q => some (q.1, q.2.1, q.2.2)) (fun q => k q.1 q.2.1 q.2.2) (p vs rs)
/-- A loop that looks for a place. -/
def sT {α : Type} (p : Nat → Bool) (n : Nat) (A : Nat → Tr α) (B : Tr α) (j : Nat) : Tr α := .br (findN p n j).isSome (A ((findN p n j).getD 0)) B
theorem sT_step {α : Type} (p : Nat → Bool) (n : Nat) (A : Nat → Tr α) (B : Tr α) (j : Nat) (h : j < n) {ρ : Type} (k : α → Option ρ) : (sT p n A B j).run k = bif p j then (A j).run k else (sT p n A B (j + 1)).run k := by
  unfold sT
  show cond _ ((A ((findN p n j).getD 0)).run k) (B.run k) = bif p j then (A j).run k else cond _ ((A ((findN p n (j + 1)).getD 0)).run k) (B.run k)
  rw [findN_step p n j h]
  cases p j <;> rfl
theorem sT_end {α : Type} (p : Nat → Bool) (n : Nat) (A : Nat → Tr α) (B : Tr α) {ρ : Type} (k : α → Option ρ) : (sT p n A B n).run k = B.run k := by
  unfold sT
  rw [findN_end p n n (Nat.le_refl _)]
  rfl
/-- What a round of a counting loop asks. -/
theorem cnt_facts {m j : Nat} (h : j < m) (hs : m ≤ 9223372036854775807) : decide ((j : Int) < (m : Int)) = true ∧ inb (j : Int) m = true ∧ IntKind.i64.wrap ((j : Int) + 1) = ((j + 1 : Nat) : Int) ∧ cnt m ((j + 1 : Nat) : Int) m = true ∧ decide (((m : Int) - ((j + 1 : Nat) : Int)).toNat < ((m : Int) - (j : Int)).toNat) = true := by
  refine ⟨decide_eq_true (by omega), inb_true (by omega) (by omega), ?_, ?_, decide_eq_true (by omega)⟩
  · rw [wrap_small _ (by omega) (by omega)]; omega
  · exact and_tt (decide_eq_true rfl) (and_tt (decide_eq_true (by omega)) (and_tt (decide_eq_true (by omega)) (decide_eq_true hs)))
end Go.Ev
namespace Go.Proofs.YtegeegibnckkkaaDoor
open Go.Ev
theorem fnT {Γ : Env} {K : List (Nat × Ev.Loop)} (hΓ : GOK Tryd.prog Γ) {f : Nat} {fn : Func} (hfn : Tryd.prog.funcs[f]? = some fn) {bs : List Code} (hl : fn.body.map loopsOf = some bs) (hL : ∀ b ∈ bs, ∃ l, findIn K (firstRegion b) = some l ∧ LoopOK Tryd.prog Γ K b l)
    {p : List AV → Tr AV} (hF : ∀ ρ avs k r, (p avs).run k = some r → evF Tryd.prog Γ K fn ρ avs k = some r) : SumOK Tryd.prog f (ofT p) ∧ SNat (ofT p) :=
  ⟨sums hΓ hfn hl hL hF, snat_ofT p⟩
theorem fn0 {Γ : Env} (hΓ : GOK Tryd.prog Γ) {f : Nat} {fn : Func} (hfn : Tryd.prog.funcs[f]? = some fn) (hl : fn.body.map loopsOf = some [])
    {p : List AV → Tr AV} (hF : ∀ ρ avs k r, (p avs).run k = some r → evF Tryd.prog Γ [] fn ρ avs k = some r) : SumOK Tryd.prog f (ofT p) ∧ SNat (ofT p) :=
  ⟨sum0 hΓ hfn hl hF, snat_ofT p⟩
theorem fn1 {Γ : Env} {K : List (Nat × Ev.Loop)} (hΓ : GOK Tryd.prog Γ) {f : Nat} {fn : Func} (hfn : Tryd.prog.funcs[f]? = some fn) {b : Code} {l : Ev.Loop} (hl : fn.body.map loopsOf = some [b]) (hf : findIn K (firstRegion b) = some l) (hL : LoopOK Tryd.prog Γ K b l)
    {p : List AV → Tr AV} (hF : ∀ ρ avs k r, (p avs).run k = some r → evF Tryd.prog Γ K fn ρ avs k = some r) : SumOK Tryd.prog f (ofT p) ∧ SNat (ofT p) :=
  ⟨sum1 hΓ hfn hl hf hL hF, snat_ofT p⟩
end Go.Proofs.YtegeegibnckkkaaDoor

/-
  What slices.Insert of one element comes to.
-/
namespace Go.Ev

theorem roomB_small {n b : Nat} (h : n ≤ 2000000) (h' : b ≤ 1000) : roomB n b = true := by
  simp only [roomB, Bool.and_eq_true, decide_eq_true_eq]
  have : n * b ≤ 2000000 * 1000 := Nat.mul_le_mul h h'
  omega
theorem slb_true {l h : Int} {m : Nat} (h0 : 0 ≤ l) (h1 : l ≤ h) (h2 : h ≤ m) : slb l h m = true := by simp [slb, h0, h1, h2]
theorem getD_eq {es : List AV} {i : Nat} (h : i < es.length) : es.getD i .unk = es[i] := by simp [List.getD, h]
theorem drop_getD {es : List AV} {i : Nat} (h : i < es.length) : es.drop i = es.getD i .unk :: es.drop (i + 1) := by rw [getD_eq h, List.drop_eq_getElem_cons h]

def spl (A B : List AV) (w : Nat) : List AV := A.take w ++ (B.take (min (A.length - w) B.length) ++ A.drop (w + min (A.length - w) B.length))
theorem spl_eq {P R B : List AV} {w : Nat} (h : P.length = w) (h' : B.length ≤ R.length) : spl (P ++ R) B w = P ++ (B ++ R.drop B.length) := by
  subst h
  unfold spl
  rw [show min ((P ++ R).length - P.length) B.length = B.length from by rw [List.length_append]; omega]
  rw [List.take_left, List.take_length, List.drop_append]
  rw [show P.length + B.length - P.length = B.length from by omega, List.drop_of_length_le (by omega : P.length ≤ P.length + B.length)]
  rfl
/-- The text of slices.Insert with one new element, evaluated; K: what is made of the new list. -/
def insTree {ρ : Type} (es sp : List AV) (x z : AV) (i bytes : Nat) (K : List AV → Option ρ) : Option ρ :=
  bif slb (i : Int) (es.length : Int) es.length then
    bif (i : Int) == (es.length : Int) then bif roomB (es.length + 1) bytes then K (es ++ [x]) else none else
    bif decide (IntKind.i64.wrap ((es.length : Int) + 1) > (es.length : Int) + (sp.length : Int)) then
      bif slb 0 (i : Int) es.length then
        bif decide (i ≤ es.length) && (decide (0 ≤ IntKind.i64.wrap (IntKind.i64.wrap ((es.length : Int) + 1) - i)) && (decide (es.length + sp.length < i + (IntKind.i64.wrap (IntKind.i64.wrap ((es.length : Int) + 1) - i)).toNat) && roomB (i + (IntKind.i64.wrap (IntKind.i64.wrap ((es.length : Int) + 1) - i)).toNat) bytes)) then
          (fun T : List AV => bif slb (i : Int) (T.length : Int) T.length then bif decide (i + (T.length - i) ≤ T.length) then
            (fun A : List AV => bif slb (IntKind.i64.wrap ((i : Int) + 1)) (A.length : Int) A.length then bif slb (i : Int) (es.length : Int) es.length then bif decide (i + (es.length - i) ≤ es.length) then
              bif decide ((IntKind.i64.wrap ((i : Int) + 1)).toNat + (A.length - (IntKind.i64.wrap ((i : Int) + 1)).toNat) ≤ A.length) then K (spl A ((es.drop i).take (es.length - i)) (IntKind.i64.wrap ((i : Int) + 1)).toNat) else none else none else none else none) (spl T [x] i)
            else none else none) (es.take i ++ List.replicate (IntKind.i64.wrap (IntKind.i64.wrap ((es.length : Int) + 1) - i)).toNat z)
        else none
      else none
    else
      bif decide ((es.length : Int) ≤ IntKind.i64.wrap ((es.length : Int) + 1)) && decide (IntKind.i64.wrap ((es.length : Int) + 1) ≤ (es.length : Int) + (sp.length : Int)) then
        (fun E : List AV => bif slb (IntKind.i64.wrap ((i : Int) + 1)) (E.length : Int) E.length then
          bif (PID + 0).beq PID && ((PID + 1).beq (PID + 1) && decide ((IntKind.i64.wrap ((i : Int) + 1)).toNat + (E.length - (IntKind.i64.wrap ((i : Int) + 1)).toNat) ≤ E.length)) then
            bif slb (IntKind.i64.wrap ((i : Int) + 1)) (E.length : Int) E.length then bif slb (i : Int) (E.length : Int) E.length then bif decide (i + (E.length - i) ≤ E.length) then
              bif decide ((IntKind.i64.wrap ((i : Int) + 1)).toNat + (E.length - (IntKind.i64.wrap ((i : Int) + 1)).toNat) ≤ E.length) then
                (fun C : List AV => bif slb (i : Int) (C.length : Int) C.length then bif decide (i + (C.length - i) ≤ C.length) then K (spl C [x] i) else none else none)
                  (spl E ((E.drop i).take (E.length - i)) (IntKind.i64.wrap ((i : Int) + 1)).toNat)
              else none else none else none else none
          else none else none) (es ++ sp.take ((IntKind.i64.wrap ((es.length : Int) + 1)).toNat - es.length))
      else none
  else none
theorem insTree_eq {ρ : Type} {es sp : List AV} {x z : AV} {i bytes : Nat} (K : List AV → Option ρ) (hi : i ≤ es.length) (hn : es.length ≤ 100000) (hb : bytes ≤ 1000) : insTree es sp x z i bytes K = K (es.take i ++ x :: es.drop i) := by
  have w1 : IntKind.i64.wrap ((es.length : Int) + 1) = ((es.length + 1 : Nat) : Int) := by rw [wrap_mid _ (by omega) (by omega)]; omega
  have w2 : IntKind.i64.wrap (((es.length + 1 : Nat) : Int) - i) = ((es.length + 1 - i : Nat) : Int) := by rw [wrap_mid _ (by omega) (by omega)]; omega
  have w3 : IntKind.i64.wrap ((i : Int) + 1) = ((i + 1 : Nat) : Int) := by rw [wrap_mid _ (by omega) (by omega)]; omega
  unfold insTree
  rw [w1, w2, w3]
  simp only [Int.toNat_natCast]
  rw [slb_true (by omega) (by omega) (by omega), cond_true]
  by_cases he : i = es.length
  · subst he
    rw [show ((es.length : Int) == (es.length : Int)) = true from by simp, cond_true, roomB_small (by omega) hb, cond_true, List.take_length, List.drop_length]
  · have hlt : i < es.length := by omega
    rw [show ((i : Int) == (es.length : Int)) = false from by simp; omega, cond_false]
    have htl : (es.take i).length = i := by rw [List.length_take]; omega
    by_cases hsp : sp.length = 0
    · rw [decide_eq_true (by omega), cond_true, slb_true (by omega) (by omega) (by omega), cond_true]
      refine Eq.trans (cond_t (and_t (decide_eq_true (by omega)) (and_t (decide_eq_true (by omega)) (and_t (decide_eq_true (by omega)) (roomB_small (by omega) hb))))) ?_
      have hT : es.take i ++ List.replicate (es.length + 1 - i) z = es.take i ++ (z :: List.replicate (es.length - i) z) := by
        rw [show es.length + 1 - i = (es.length - i) + 1 from by omega, List.replicate_succ]
      simp only [hT]
      have hA : spl (es.take i ++ (z :: List.replicate (es.length - i) z)) [x] i = es.take i ++ (x :: List.replicate (es.length - i) z) := by
        rw [spl_eq htl (by simp)]; rfl
      simp only [hA]
      have l1 : (es.take i ++ (z :: List.replicate (es.length - i) z)).length = es.length + 1 := by rw [List.length_append, htl, List.length_cons, List.length_replicate]; omega
      have l2 : (es.take i ++ (x :: List.replicate (es.length - i) z)).length = es.length + 1 := by rw [List.length_append, htl, List.length_cons, List.length_replicate]; omega
      simp only [l1, l2]
      refine Eq.trans (cond_t (slb_true (by omega) (by omega) (by omega))) (Eq.trans (cond_t (decide_eq_true (by omega))) (Eq.trans (cond_t (slb_true (by omega) (by omega) (by omega))) (Eq.trans (cond_t rfl) (Eq.trans (cond_t (decide_eq_true (by omega))) (Eq.trans (cond_t (decide_eq_true (by omega))) ?_)))))
      rw [show es.take i ++ (x :: List.replicate (es.length - i) z) = (es.take i ++ [x]) ++ List.replicate (es.length - i) z from by simp]
      have hB : (es.drop i).take (es.length - i) = es.drop i := List.take_of_length_le (by simp)
      have hR : (List.replicate (es.length - i) z).drop (es.drop i).length = [] := List.drop_of_length_le (by simp)
      rw [hB, spl_eq (by rw [List.length_append, htl]; rfl) (by simp), hR]
      simp
    · rw [decide_eq_false (by omega), cond_false]
      refine Eq.trans (cond_t (and_t (decide_eq_true (by omega)) (decide_eq_true (by omega)))) ?_
      obtain ⟨y, sp', rfl⟩ : ∃ y sp', sp = y :: sp' := by cases sp with | nil => simp at hsp | cons y sp' => exact ⟨y, sp', rfl⟩
      have h1 : es.length + 1 - es.length = 1 := by omega
      simp only [h1, List.take_succ_cons, List.take_zero]
      have l1 : (es ++ [y]).length = es.length + 1 := by simp
      have hd1 : (es ++ [y]).drop i = es.drop i ++ [y] := List.drop_append_of_le_length (by omega)
      have hC : spl (es ++ [y]) (((es ++ [y]).drop i).take ((es ++ [y]).length - i)) (i + 1) = es.take (i + 1) ++ es.drop i := by
        have l3 : (es.drop i ++ [y]).length = es.length + 1 - i := by rw [List.length_append, List.length_drop]; simp; omega
        have hB : (es.drop i ++ [y]).take (es.length + 1 - i) = es.drop i ++ [y] := List.take_of_length_le (by rw [l3]; exact Nat.le_refl _)
        have h2 : (es.drop i ++ [y]).take (es.length - i) = es.drop i := by
          rw [List.take_append_of_le_length (by rw [List.length_drop]; omega), List.take_of_length_le (by rw [List.length_drop]; omega)]
        have h3 : (es ++ [y]).drop (i + 1 + (es.length - i)) = [] := List.drop_of_length_le (by rw [l1]; omega)
        have h4 : (es ++ [y]).take (i + 1) = es.take (i + 1) := List.take_append_of_le_length (by omega)
        rw [hd1, l1, hB]
        unfold spl
        rw [l1, l3, show min (es.length + 1 - (i + 1)) (es.length + 1 - i) = es.length - i from by omega, h2, h3, h4, List.append_nil]
      simp only [hC]
      have l4 : (es.take (i + 1) ++ es.drop i).length = es.length + 1 := by rw [List.length_append, List.length_take, List.length_drop]; omega
      simp only [l1, l4]
      refine Eq.trans (cond_t (slb_true (by omega) (by omega) (by omega))) (Eq.trans (cond_t (and_t (Nat.beq_refl _) (and_t (Nat.beq_refl _) (decide_eq_true (by omega))))) (Eq.trans (cond_t (slb_true (by omega) (by omega) (by omega))) (Eq.trans (cond_t (slb_true (by omega) (by omega) (by omega))) (Eq.trans (cond_t (decide_eq_true (by omega))) (Eq.trans (cond_t (decide_eq_true (by omega))) (Eq.trans (cond_t (slb_true (by omega) (by omega) (by omega))) (Eq.trans (cond_t (decide_eq_true (by omega))) ?_)))))))
      rw [show es.take (i + 1) ++ es.drop i = es.take i ++ (es[i] :: es.drop i) from by rw [List.take_succ_eq_append_getElem hlt, List.append_assoc]; rfl, spl_eq htl (by simp)]
      rfl
end Go.Ev

/-
  What slices.DeleteFunc comes to.
-/
namespace Go.Ev

def delN (p : AV → Bool) (c : AV → AV) : Nat → List AV → Nat → Nat → List AV × Nat
  | 0, es, i, _ => (es, i)
  | n + 1, es, i, j => bif p (es.getD j .unk) then delN p c n es i (j + 1) else delN p c n (es.set i (c (es.getD j .unk))) (i + 1) (j + 1)
theorem delN_succ (p : AV → Bool) (c : AV → AV) (n : Nat) (es : List AV) (i j : Nat) : delN p c (n + 1) es i j = bif p (es.getD j .unk) then delN p c n es i (j + 1) else delN p c n (es.set i (c (es.getD j .unk))) (i + 1) (j + 1) := rfl
theorem delN_len (p : AV → Bool) (c : AV → AV) : ∀ (n : Nat) (es : List AV) (i j : Nat), (delN p c n es i j).1.length = es.length
  | 0, _, _, _ => rfl
  | n + 1, es, i, j => by
    rw [delN_succ]
    cases p (es.getD j .unk)
    · rw [cond_false, delN_len p c n]; simp
    · rw [cond_true, delN_len p c n]
theorem delN_le (p : AV → Bool) (c : AV → AV) : ∀ (n : Nat) (es : List AV) (i j : Nat), (delN p c n es i j).2 ≤ i + n
  | 0, _, _, _ => Nat.le_refl _
  | n + 1, es, i, j => by
    rw [delN_succ]
    cases p (es.getD j .unk)
    · rw [cond_false]; have := delN_le p c n (es.set i (c (es.getD j .unk))) (i + 1) (j + 1); omega
    · rw [cond_true]; have := delN_le p c n es i (j + 1); omega
theorem delN_take (p : AV → Bool) (c : AV → AV) : ∀ (n : Nat) (es : List AV) (i j : Nat), i ≤ j → j + n = es.length → (∀ x ∈ es, c x = x) → (delN p c n es i j).1.take (delN p c n es i j).2 = es.take i ++ (es.drop j).filter (fun x => !p x)
  | 0, es, i, j, _, h, _ => by
    unfold delN
    rw [List.drop_of_length_le (by omega)]
    simp
  | n + 1, es, i, j, hij, h, hc => by
    have hj : j < es.length := by omega
    rw [delN_succ, getD_eq hj, List.drop_eq_getElem_cons hj, List.filter_cons]
    cases hz : p es[j]
    · rw [cond_false, hc _ (List.getElem_mem hj)]
      rw [delN_take p c n (es.set i es[j]) (i + 1) (j + 1) (by omega) (by rw [List.length_set]; omega) (fun x hx => by
        rcases List.mem_or_eq_of_mem_set hx with h | h
        · exact hc x h
        · rw [h]; exact hc _ (List.getElem_mem hj))]
      have e1 : (es.set i es[j]).take (i + 1) = es.take i ++ [es[j]] := by
        rw [List.take_add_one, List.take_set_of_le (Nat.le_refl _), List.getElem?_set_self (by omega)]
        rfl
      have e2 : (es.set i es[j]).drop (j + 1) = es.drop (j + 1) := List.drop_set_of_lt (by omega)
      rw [e1, e2]
      simp
    · rw [cond_true, delN_take p c n es i (j + 1) (by omega) (by omega) hc]
      simp
/-- The text of slices.DeleteFunc, evaluated; f: where the first to be deleted is; G: what its loop asks. -/
def delTree {ρ : Type} (p : AV → Bool) (c : AV → AV) (z : AV) (es : List AV) (f : Option Nat) (G : Int → Int → Bool) (K : List AV → Option ρ) : Option ρ :=
  bif small es.length then bif idxZ f == -1 then K es else
    bif G (idxZ f) (IntKind.i64.wrap (idxZ f + 1)) then
      (fun D : List AV × Nat => bif slb (D.2 : Int) (D.1.length : Int) D.1.length then bif decide (((D.2 : Nat) : Int).toNat + (((D.1.length : Nat) : Int).toNat - ((D.2 : Nat) : Int).toNat) ≤ D.1.length) then
        (fun E : List AV => bif slb 0 (D.2 : Int) E.length then bif (((D.2 : Nat) : Int).toNat - Int.toNat 0).ble E.length then K (E.take (((D.2 : Nat) : Int).toNat - Int.toNat 0)) else none else none)
          (D.1.take ((D.2 : Nat) : Int).toNat ++ (List.replicate (((D.1.length : Nat) : Int).toNat - ((D.2 : Nat) : Int).toNat) z ++ D.1.drop (((D.2 : Nat) : Int).toNat + (((D.1.length : Nat) : Int).toNat - ((D.2 : Nat) : Int).toNat))))
        else none else none) (delN p c (es.length - (IntKind.i64.wrap (idxZ f + 1)).toNat) es (idxZ f).toNat (IntKind.i64.wrap (idxZ f + 1)).toNat)
    else none
  else none
theorem delTree_eq {ρ : Type} {p : AV → Bool} {c : AV → AV} {z : AV} {es : List AV} {f : Option Nat} {G : Int → Int → Bool} {K : List AV → Option ρ} (hf : f = findN (fun i => p (es.getD i .unk)) es.length 0) (hs : es.length ≤ 1000000) (hc : ∀ x ∈ es, c x = x) (hG : ∀ i : Nat, i < es.length → G i ((i : Int) + 1) = true) : delTree p c z es f G K = K (es.filter fun x => !p x) := by
  unfold delTree
  rw [show small es.length = true from decide_eq_true (by omega), cond_true]
  cases hq : f with
  | none =>
    have hn := findN_none (hf ▸ hq)
    rw [show es.filter (fun x => !p x) = es from List.filter_eq_self.2 fun x hx => by
      obtain ⟨i, hi, rfl⟩ := List.getElem_of_mem hx
      have := hn i (Nat.zero_le _) hi
      rw [getD_eq hi] at this
      rw [this]; rfl]
    rfl
  | some i =>
    obtain ⟨_, hi, h1, h2⟩ := findN_some (hf ▸ hq)
    have hw : IntKind.i64.wrap ((i : Int) + 1) = i + 1 := wrap_mid _ (by omega) (by omega)
    have hn1 : ((i : Int) + 1).toNat = i + 1 := by omega
    have hl := delN_len p c (es.length - (i + 1)) es i (i + 1)
    have hle := delN_le p c (es.length - (i + 1)) es i (i + 1)
    have htk := delN_take p c (es.length - (i + 1)) es i (i + 1) (by omega) (by omega) hc
    have hfi : es.filter (fun x => !p x) = es.take i ++ (es.drop (i + 1)).filter (fun x => !p x) := by
      conv => lhs; rw [← List.take_append_drop i es, List.drop_eq_getElem_cons hi]
      rw [getD_eq hi] at h1
      rw [List.filter_append, List.filter_cons, h1]
      rw [show (es.take i).filter (fun x => !p x) = es.take i from List.filter_eq_self.2 fun x hx => by
        obtain ⟨j, hj, rfl⟩ := List.getElem_of_mem hx
        rw [List.length_take] at hj
        have := h2 j (Nat.zero_le _) (by omega)
        rw [getD_eq (by omega)] at this
        rw [List.getElem_take, this]; rfl]
      rfl
    rw [hfi, ← htk]
    simp only [idxZ, hw, hn1, Int.toNat_natCast]
    rw [show ((i : Int) == -1) = false from by simp, cond_false, hG i hi, cond_true]
    generalize delN p c (es.length - (i + 1)) es i (i + 1) = D at hl hle
    have e1 : D.1.take D.2 ++ (List.replicate (D.1.length - D.2) z ++ D.1.drop (D.2 + (D.1.length - D.2))) = D.1.take D.2 ++ List.replicate (D.1.length - D.2) z := by
      rw [List.drop_of_length_le (by omega), List.append_nil]
    have e2 : (D.1.take D.2 ++ List.replicate (D.1.length - D.2) z).length = D.1.length := by simp; omega
    rw [e1]
    refine Eq.trans (cond_t (slb_true (by omega) (by omega) (by omega))) (Eq.trans (cond_t (decide_eq_true (by omega))) (Eq.trans (cond_t (slb_true (by omega) (by omega) (by rw [e2]; omega))) (Eq.trans (cond_t (Nat.ble_eq_true_of_le (by rw [e2]; simp; omega))) ?_)))
    rw [show D.2 - Int.toNat 0 = D.2 from by simp, List.take_append_of_le_length (by simp; omega), List.take_of_length_le (by simp; omega)]
end Go.Ev

/-
  Names: small letters, digits and the signs - _ and full stop.
-/
namespace Go.Proofs.YtegeegibnckkkaaDoor
open Go.Ev

theorem byte_of {v : AV} (h : hasSh (.int .u8) v = true) : ∃ m, v = .int .u8 m := by
  cases v <;> simp [hasSh, has1] at h
  subst h
  exact ⟨_, rfl⟩
theorem u8_small (n : Int) (h : 0 ≤ n) (h' : n ≤ 255) : IntKind.u8.wrap n = n := by
  rw [IntKind.wrap_u8]; omega
noncomputable def G0 : Env := { pure := [] }
theorem g0 : GOK Tryd.prog G0 := GOK.empty
def inR (n a b : Int) : Bool := decide (a ≤ n) && decide (n ≤ b)
theorem inR_spec {n a b : Int} (h : inR n a b = true) : a ≤ n ∧ n ≤ b := by simpa [inR] using h
theorem inR_of {n a b : Int} (h : a ≤ n) (h' : n ≤ b) : inR n a b = true := by simp [inR, h, h']
def F18 : List AV → Tr AV
  | [.int .i64 n, .int .i64 a, .int .i64 b] => .leaf (.bool (inR n a b))
  | _ => .no
theorem ok18 : SumOK Tryd.prog 18 (ofT F18) ∧ SNat (ofT F18) := by
  refine fn0 g0 Tryd.func18 (by kernel_rfl) fun ρ avs k r h => ?_
  unfold F18 at h
  split at h
  · rename_i n a b
    have hk := h
    refine Eq.trans (b := bif decide (a ≤ n) then k (.bool (decide (n ≤ b))) else k (.bool false)) (by kernel_rfl) (Eq.trans ?_ hk)
    show _ = k (.bool (decide (a ≤ n) && decide (n ≤ b)))
    cases decide (a ≤ n) <;> rfl
  · cases h
def ltI (n : Int) : Bool := inR n 97 122 || (inR n 65 90 || inR n 48 57)
def F53 : List AV → Tr AV
  | [.int .u8 n] => .leaf (.bool (ltI n))
  | _ => .no
theorem ok53 : SumOK Tryd.prog 53 (ofT F53) ∧ SNat (ofT F53) := by
  refine fn0 g0 Tryd.func53 (by kernel_rfl) fun ρ avs k r h => ?_
  unfold F53 at h
  split at h
  · rename_i n
    have hk := h
    refine Eq.trans (b := bif decide (n ≥ (97 : Int)) then bif decide (n ≤ (122 : Int)) then k (AV.bool true) else bif decide (n ≥ (65 : Int)) then bif decide (n ≤ (90 : Int)) then k (AV.bool true) else bif decide (n ≥ (48 : Int)) then k (AV.bool (decide (n ≤ (57 : Int)))) else k (AV.bool false) else bif decide (n ≥ (48 : Int)) then k (AV.bool (decide (n ≤ (57 : Int)))) else k (AV.bool false) else bif decide (n ≥ (65 : Int)) then bif decide (n ≤ (90 : Int)) then k (AV.bool true) else bif decide (n ≥ (48 : Int)) then k (AV.bool (decide (n ≤ (57 : Int)))) else k (AV.bool false) else bif decide (n ≥ (48 : Int)) then k (AV.bool (decide (n ≤ (57 : Int)))) else k (AV.bool false)) (by kernel_rfl) ?_
    rw [← hk]
    show _ = k (.bool ((decide (97 ≤ n) && decide (n ≤ 122)) || ((decide (65 ≤ n) && decide (n ≤ 90)) || (decide (48 ≤ n) && decide (n ≤ 57)))))
    cases decide (n ≥ 97) <;> cases decide (n ≤ 122) <;> cases decide (n ≥ 65) <;> cases decide (n ≤ 90) <;> cases decide (n ≥ 48) <;> cases decide (n ≤ 57) <;> rfl
  · cases h
noncomputable def G52 : Env := { pure := [(53, ofT F53)] }
theorem g52 : GOK Tryd.prog G52 := GOK.also g0 ok53
def nmI (n : Int) : Bool := ltI n || (n == 45 || (n == 95 || n == 46))
def F52 : List AV → Tr AV
  | [.int .u8 n] => .leaf (.bool (nmI n))
  | _ => .no
theorem ok52 : SumOK Tryd.prog 52 (ofT F52) ∧ SNat (ofT F52) := by
  refine fn0 g52 Tryd.func52 (by kernel_rfl) fun ρ avs k r h => ?_
  unfold F52 at h
  split at h
  · rename_i n
    have hk := h
    refine Eq.trans (b := bif ltI n then k (AV.bool true) else bif n == (45 : Int) then k (AV.bool true) else bif n == (95 : Int) then k (AV.bool true) else k (AV.bool (n == (46 : Int)))) (by kernel_rfl) ?_
    rw [← hk]
    show _ = k (.bool (ltI n || (n == 45 || (n == 95 || n == 46))))
    cases ltI n <;> cases n == 45 <;> cases n == 95 <;> cases n == 46 <;> rfl
  · cases h
noncomputable def G51 : Env := { pure := [(52, ofT F52)] }
theorem g51 : GOK Tryd.prog G51 := GOK.also g0 ok52
noncomputable def b51 : Code := ((Tryd.f51.body.map loopsOf).getD []).headD .skip
def atI (s : List UInt8) (i : Nat) : Int := ((s.getD i 0).toNat : Nat)
def L51 : List AV → List (Option Row) → Tr LOut
  | [.str s, .fn 52 [], .bool b, .int .i64 n, .int .i64 i], [] =>
    .gd (cnt n i s.length) (sT (fun i => !nmI (atI s i)) s.length (fun q => .leaf (.ret, [.str s, .fn 52 [], .bool false, .int .i64 n, .int .i64 (q : Nat)], [])) (.leaf (.exit 0, [.str s, .fn 52 [], .bool b, .int .i64 n, .int .i64 s.length], [])) i.toNat)
  | _, _ => .no
def l51 : Ev.Loop := ⟨{ len := 18, slots := [0, 1, 4, 7, 8] }, ofL L51⟩
def μ51 (vs : List AV) (_ : List (Option Row)) : Nat := match vs with
  | [_, _, _, .int _ n, .int _ i] => (n - i).toNat
  | _ => 0
theorem loop51 : LoopOK Tryd.prog G51 [(2, l51)] b51 l51 := by
  refine loopT g51.natOK rfl (KOK.nil (by kernel_rfl)) μ51 (fun ρ vs rs k r h => ?_)
  unfold L51 at h
  split at h
  · rename_i s b n i
    obtain ⟨hc, hk⟩ := gd_some h
    obtain ⟨rfl, hs, j, rfl, hj⟩ := cnt_spec hc
    rw [Int.toNat_natCast] at hk
    refine Eq.trans (b := bif decide ((↑j : Int) < (↑s.length : Int)) then bif inb (↑j : Int) s.length then bif !nmI (↑(s.getD j (0 : UInt8)).toNat : Int) then k Ex.ret [AV.str s, AV.fn (52 : Nat) [], AV.bool false, AV.int IntKind.i64 (↑s.length : Int), AV.int IntKind.i64 (↑j : Int)] [] else bif decide (((↑s.length : Int) - IntKind.i64.wrap ((↑j : Int) + (1 : Int))).toNat < ((↑s.length : Int) - (↑j : Int)).toNat) then bif cnt (↑s.length : Int) (IntKind.i64.wrap ((↑j : Int) + (1 : Int))) s.length then bif (findN (fun i => !nmI (atI s i)) s.length (IntKind.i64.wrap ((↑j : Int) + (1 : Int))).toNat).isSome then k Ex.ret [AV.str s, AV.fn (52 : Nat) [], AV.bool false, AV.int IntKind.i64 (↑s.length : Int), AV.int IntKind.i64 (↑((findN (fun i => !nmI (atI s i)) s.length (IntKind.i64.wrap ((↑j : Int) + (1 : Int))).toNat).getD (0 : Nat)) : Int)] [] else k (Ex.exit (0 : Nat)) [AV.str s, AV.fn (52 : Nat) [], AV.bool b, AV.int IntKind.i64 (↑s.length : Int), AV.int IntKind.i64 (↑s.length : Int)] [] else none else none else none else k (Ex.exit (0 : Nat)) [AV.str s, AV.fn (52 : Nat) [], AV.bool b, AV.int IntKind.i64 (↑s.length : Int), AV.int IntKind.i64 (↑j : Int)] []) (by kernel_rfl) ?_
    rw [← hk]
    by_cases hlt : j < s.length
    · obtain ⟨e1, e2, e3, e4, e5⟩ := cnt_facts hlt hs
      rw [sT_step _ _ _ _ _ hlt]
      simp only [e1, e2, e3, e4, e5, cond_true, Int.toNat_natCast]
      rfl
    · obtain rfl : j = s.length := by omega
      rw [decide_eq_false (by omega), sT_end]
      rfl
  · cases h
def allN (p : Int → Bool) (s : List UInt8) : Bool := !(findN (fun i => !p (atI s i)) s.length 0).isSome
def F51 : List AV → Tr AV
  | [.str s, .fn 52 []] => .gd (small s.length) (.leaf (.bool (allN nmI s)))
  | _ => .no
theorem ok51 : SumOK Tryd.prog 51 (ofT F51) ∧ SNat (ofT F51) := by
  refine fn1 (K := [(2, l51)]) (b := b51) (l := l51) g51 Tryd.func51 (by kernel_rfl) (by kernel_rfl) loop51 fun ρ avs k r h => ?_
  unfold F51 at h
  split at h
  · rename_i s
    obtain ⟨hc, hk⟩ := gd_some h
    refine Eq.trans (b := bif cnt (↑s.length : Int) (0 : Int) s.length then bif (findN (fun i => !nmI (atI s i)) s.length (0 : Nat)).isSome then k (AV.bool false) else k (AV.bool true) else none) (by kernel_rfl) ?_
    rw [← hk, cnt_zero hc]
    show _ = k (.bool (allN nmI s))
    unfold allN
    cases (findN (fun i => !nmI (atI s i)) s.length 0).isSome <;> rfl
  · cases h
noncomputable def G40 : Env := { pure := [(51, ofT F51)] }
theorem g40 : GOK Tryd.prog G40 := GOK.also g0 ok51
def naB (s : List UInt8) : Bool := !(s == []) && (decide ((s.length : Int) ≤ 60) && allN nmI s)
def F40 : List AV → Tr AV
  | [.str s] => .gd (small s.length) (.leaf (.bool (naB s)))
  | _ => .no
theorem ok40 : SumOK Tryd.prog 40 (ofT F40) ∧ SNat (ofT F40) := by
  refine fn0 g40 Tryd.func40 (by kernel_rfl) fun ρ avs k r h => ?_
  unfold F40 at h
  split at h
  · rename_i s
    obtain ⟨hc, hk⟩ := gd_some h
    refine Eq.trans (b := bif !s == ([] : List UInt8) then bif decide ((↑s.length : Int) ≤ (60 : Int)) then bif small s.length then k (AV.bool (allN nmI s)) else none else k (AV.bool false) else k (AV.bool false)) (by kernel_rfl) ?_
    rw [← hk, hc]
    show _ = k (.bool (!(s == []) && (decide ((s.length : Int) ≤ 60) && allN nmI s)))
    cases s == [] <;> cases decide ((s.length : Int) ≤ 60) <;> rfl
  · cases h
/-! Lower -/
def lowI (n : Int) : Int := bif inR n 65 90 then n + 32 else n
def lowE (e : AV) : AV := .int .u8 (lowI e.toInt)
noncomputable def GC : Env := { pure := [], conv := true }
theorem gc : GOK Tryd.prog GC := GOK.flags g0
noncomputable def b41 : Code := ((Tryd.f41.body.map loopsOf).getD []).headD .skip
def bE (e : AV) : Bool := hasSh (.int .u8) e && inR e.toInt 0 255
def L41 : List AV → List (Option Row) → Tr LOut
  | [.own 65, .own 65, .int .i64 n, .int .i64 i], [some (.arr false (.int .u8) e es none)] =>
    .gd (cnt n i es.length && es.all bE) (.leaf (.exit 0, [.own 65, .own 65, .int .i64 n, .int .i64 es.length], [some (.arr false (.int .u8) e (es.take i.toNat ++ (es.drop i.toNat).map lowE) none)]))
  | _, _ => .no
def l41 : Ev.Loop := ⟨{ len := 30, slots := [3, 8, 9, 10], rows := [65] }, ofL L41⟩
def μ41 (vs : List AV) (_ : List (Option Row)) : Nat := match vs with
  | [_, _, .int _ n, .int _ i] => (n - i).toNat
  | _ => 0
theorem loop41 : LoopOK Tryd.prog GC [(3, l41)] b41 l41 := by
  refine loopT gc.natOK rfl (KOK.nil (by kernel_rfl)) μ41 (fun ρ vs rs k r h => ?_)
  unfold L41 at h
  split at h
  · rename_i n i e es
    obtain ⟨hc, hk⟩ := gd_some h
    simp only [Bool.and_eq_true] at hc
    obtain ⟨hc, hall⟩ := hc
    obtain ⟨rfl, hs, j, rfl, hj⟩ := cnt_spec hc
    rw [Int.toNat_natCast] at hk
    refine Eq.trans (b := bif decide ((↑j : Int) < (↑es.length : Int)) then bif inb (↑j : Int) es.length then bif decide (j < es.length) then bif decide (((es.getD j AV.unk).cells.headD AV.unk).toInt ≥ (65 : Int)) then bif decide (((es.getD j AV.unk).cells.headD AV.unk).toInt ≤ (90 : Int)) then bif inb (↑j : Int) es.length then bif decide (j < es.length) then bif decide (((↑es.length : Int) - IntKind.i64.wrap ((↑j : Int) + (1 : Int))).toNat < ((↑es.length : Int) - (↑j : Int)).toNat) then bif cnt (↑es.length : Int) (IntKind.i64.wrap ((↑j : Int) + (1 : Int))) (es.set j (mkAV (Sh.int IntKind.u8) [AV.int IntKind.u8 (IntKind.u8.wrap (IntKind.u8.wrap (((es.getD j AV.unk).cells.headD AV.unk).toInt + (97 : Int)) - (65 : Int)))])).length && (es.set j (mkAV (Sh.int IntKind.u8) [AV.int IntKind.u8 (IntKind.u8.wrap (IntKind.u8.wrap (((es.getD j AV.unk).cells.headD AV.unk).toInt + (97 : Int)) - (65 : Int)))])).all bE then k (Ex.exit (0 : Nat)) [AV.own (65 : Nat), AV.own (65 : Nat), AV.int IntKind.i64 (↑es.length : Int), AV.int IntKind.i64 (↑(es.set j (mkAV (Sh.int IntKind.u8) [AV.int IntKind.u8 (IntKind.u8.wrap (IntKind.u8.wrap (((es.getD j AV.unk).cells.headD AV.unk).toInt + (97 : Int)) - (65 : Int)))])).length : Int)] [some (Row.arr false (Sh.int IntKind.u8) e (List.take (IntKind.i64.wrap ((↑j : Int) + (1 : Int))).toNat (es.set j (mkAV (Sh.int IntKind.u8) [AV.int IntKind.u8 (IntKind.u8.wrap (IntKind.u8.wrap (((es.getD j AV.unk).cells.headD AV.unk).toInt + (97 : Int)) - (65 : Int)))])) ++ List.map lowE (List.drop (IntKind.i64.wrap ((↑j : Int) + (1 : Int))).toNat (es.set j (mkAV (Sh.int IntKind.u8) [AV.int IntKind.u8 (IntKind.u8.wrap (IntKind.u8.wrap (((es.getD j AV.unk).cells.headD AV.unk).toInt + (97 : Int)) - (65 : Int)))])))) none)] else none else none else none else none else bif decide (((↑es.length : Int) - IntKind.i64.wrap ((↑j : Int) + (1 : Int))).toNat < ((↑es.length : Int) - (↑j : Int)).toNat) then bif cnt (↑es.length : Int) (IntKind.i64.wrap ((↑j : Int) + (1 : Int))) es.length && es.all bE then k (Ex.exit (0 : Nat)) [AV.own (65 : Nat), AV.own (65 : Nat), AV.int IntKind.i64 (↑es.length : Int), AV.int IntKind.i64 (↑es.length : Int)] [some (Row.arr false (Sh.int IntKind.u8) e (List.take (IntKind.i64.wrap ((↑j : Int) + (1 : Int))).toNat es ++ List.map lowE (List.drop (IntKind.i64.wrap ((↑j : Int) + (1 : Int))).toNat es)) none)] else none else none else bif decide (((↑es.length : Int) - IntKind.i64.wrap ((↑j : Int) + (1 : Int))).toNat < ((↑es.length : Int) - (↑j : Int)).toNat) then bif cnt (↑es.length : Int) (IntKind.i64.wrap ((↑j : Int) + (1 : Int))) es.length && es.all bE then k (Ex.exit (0 : Nat)) [AV.own (65 : Nat), AV.own (65 : Nat), AV.int IntKind.i64 (↑es.length : Int), AV.int IntKind.i64 (↑es.length : Int)] [some (Row.arr false (Sh.int IntKind.u8) e (List.take (IntKind.i64.wrap ((↑j : Int) + (1 : Int))).toNat es ++ List.map lowE (List.drop (IntKind.i64.wrap ((↑j : Int) + (1 : Int))).toNat es)) none)] else none else none else none else none else k (Ex.exit (0 : Nat)) [AV.own (65 : Nat), AV.own (65 : Nat), AV.int IntKind.i64 (↑es.length : Int), AV.int IntKind.i64 (↑j : Int)] [some (Row.arr false (Sh.int IntKind.u8) e es none)]) (by kernel_rfl) ?_
    rw [← hk]
    by_cases hlt : j < es.length
    · have w1 : IntKind.i64.wrap ((j : Int) + 1) = ((j + 1 : Nat) : Int) := by rw [wrap_small _ (by omega) (by omega)]; omega
      have hbe : bE (es.getD j .unk) = true := List.all_eq_true.1 hall _ (by rw [getD_eq hlt]; exact List.getElem_mem hlt)
      unfold bE at hbe
      simp only [Bool.and_eq_true] at hbe
      obtain ⟨m, hm⟩ : ∃ m, es.getD j .unk = .int .u8 m := byte_of hbe.1
      have hmr := hbe.2
      rw [hm] at hmr
      obtain ⟨m0, m1⟩ := inR_spec hmr
      have m0 : 0 ≤ m := m0
      have m1 : m ≤ 255 := m1
      rw [w1, Int.toNat_natCast, drop_getD hlt, List.map_cons, hm]
      have hx : (((AV.int .u8 m).cells.headD AV.unk).toInt) = m := rfl
      rw [hx]
      have hcn : cnt (es.length : Int) ((j + 1 : Nat) : Int) es.length = true := and_t (decide_eq_true rfl) (and_t (decide_eq_true (by omega)) (and_t (decide_eq_true (by omega)) (decide_eq_true hs)))
      have hkeep : ∀ v : AV, es.getD j .unk = v → es.take (j + 1) ++ (es.drop (j + 1)).map lowE = es.take j ++ v :: (es.drop (j + 1)).map lowE := fun v hv => by
        rw [List.take_succ_eq_append_getElem hlt, ← getD_eq hlt, hv]
        simp
      by_cases h1 : m ≥ 65
      · by_cases h2 : m ≤ 90
        · have hlow : lowE (.int .u8 m) = .int .u8 (m + 32) := by
            show AV.int .u8 (bif inR m 65 90 then m + 32 else m) = _
            rw [inR_of h1 h2]; rfl
          have hw : IntKind.u8.wrap (IntKind.u8.wrap (m + 97) - 65) = m + 32 := by
            rw [u8_small (m + 97) (by omega) (by omega), u8_small _ (by omega) (by omega)]; omega
          have hmk : ∀ z, mkAV (Sh.int IntKind.u8) [AV.int IntKind.u8 z] = AV.int IntKind.u8 z := fun _ => rfl
          rw [hw, hmk, hlow]
          have hset : (es.set j (AV.int .u8 (m + 32))).take (j + 1) ++ ((es.set j (AV.int .u8 (m + 32))).drop (j + 1)).map lowE = es.take j ++ AV.int .u8 (m + 32) :: (es.drop (j + 1)).map lowE := by
            rw [List.take_succ_eq_append_getElem (by rw [List.length_set]; exact hlt), List.getElem_set_self, List.take_set_of_le (Nat.le_refl _), List.drop_set_of_lt (Nat.lt_succ_self _)]
            simp
          have hal : (es.set j (AV.int .u8 (m + 32))).all bE = true := List.all_eq_true.2 fun x hx => by
            rcases List.mem_or_eq_of_mem_set hx with h' | h'
            · exact List.all_eq_true.1 hall x h'
            · rw [h']
              exact and_t rfl (inR_of (by show (0 : Int) ≤ m + 32; omega) (by show m + 32 ≤ 255; omega))
          rw [hset, List.length_set]
          refine Eq.trans (cond_t (decide_eq_true (by omega))) (Eq.trans (cond_t (inb_true (by omega) (by omega))) (Eq.trans (cond_t (decide_eq_true hlt)) (Eq.trans (cond_t (decide_eq_true h1)) (Eq.trans (cond_t (decide_eq_true h2)) (Eq.trans (cond_t (inb_true (by omega) (by omega))) (Eq.trans (cond_t (decide_eq_true hlt)) (Eq.trans (cond_t (decide_eq_true (by omega))) (Eq.trans (cond_t (and_t hcn hal)) ?_))))))))
          rfl
        · have hlow : lowE (.int .u8 m) = .int .u8 m := by
            show AV.int .u8 (bif inR m 65 90 then m + 32 else m) = _
            rw [show inR m 65 90 = false from by unfold inR; rw [decide_eq_false h2, Bool.and_false]]; rfl
          rw [hlow, hkeep _ hm]
          refine Eq.trans (cond_t (decide_eq_true (by omega))) (Eq.trans (cond_t (inb_true (by omega) (by omega))) (Eq.trans (cond_t (decide_eq_true hlt)) (Eq.trans (cond_t (decide_eq_true h1)) (Eq.trans (cond_f (decide_eq_false h2)) (Eq.trans (cond_t (decide_eq_true (by omega))) (Eq.trans (cond_t (and_t hcn hall)) ?_))))))
          rfl
      · have hlow : lowE (.int .u8 m) = .int .u8 m := by
          show AV.int .u8 (bif inR m 65 90 then m + 32 else m) = _
          rw [show inR m 65 90 = false from by unfold inR; rw [decide_eq_false h1, Bool.false_and]]; rfl
        rw [hlow, hkeep _ hm]
        refine Eq.trans (cond_t (decide_eq_true (by omega))) (Eq.trans (cond_t (inb_true (by omega) (by omega))) (Eq.trans (cond_t (decide_eq_true hlt)) (Eq.trans (cond_f (decide_eq_false h1)) (Eq.trans (cond_t (decide_eq_true (by omega))) (Eq.trans (cond_t (and_t hcn hall)) ?_)))))
        rfl
    · obtain rfl : j = es.length := by omega
      rw [decide_eq_false (by omega), List.drop_length, List.take_length, List.map_nil, List.append_nil]
      rfl
  · cases h
def lowU (c : UInt8) : UInt8 := UInt8.ofNat (lowI (c.toNat : Int)).toNat
def lowS (s : List UInt8) : List UInt8 := s.map lowU
theorem low_str (s : List UInt8) : strAV ((bytesAV s).map lowE) = lowS s := by
  unfold strAV bytesAV lowS
  rw [List.map_map, List.map_map]
  rfl
theorem bytes_all (s : List UInt8) : (bytesAV s).all bE = true := List.all_eq_true.2 fun x hx => by
  obtain ⟨b, _, rfl⟩ := List.mem_map.1 hx
  have : b.toNat < 256 := b.toNat_lt
  exact and_t rfl (inR_of (by show (0 : Int) ≤ (b.toNat : Int); omega) (by show (b.toNat : Int) ≤ 255; omega))
def F41 : List AV → Tr AV
  | [.str s] => .gd (small s.length) (.leaf (.str (lowS s)))
  | _ => .no
theorem ok41 : SumOK Tryd.prog 41 (ofT F41) ∧ SNat (ofT F41) := by
  refine fn1 (K := [(3, l41)]) (b := b41) (l := l41) gc Tryd.func41 (by kernel_rfl) (by kernel_rfl) loop41 fun ρ avs k r h => ?_
  unfold F41 at h
  split at h
  · rename_i s
    obtain ⟨hc, hk⟩ := gd_some h
    refine Eq.trans (b := bif lenB s.length then bif cnt (↑(bytesAV s).length : Int) (0 : Int) (bytesAV s).length && (bytesAV s).all bE then k (AV.str (strAV ([] ++ List.map lowE (List.drop (0 : Nat) (bytesAV s))))) else none else none) (by kernel_rfl) ?_
    rw [← hk]
    have hl : (bytesAV s).length = s.length := by unfold bytesAV; rw [List.length_map]
    have hcn : (cnt ((bytesAV s).length : Int) 0 (bytesAV s).length && (bytesAV s).all bE) = true := and_t (cnt_zero (by rw [hl]; exact hc)) (bytes_all s)
    rw [hcn, List.drop_zero, List.nil_append, low_str]
    exact cond_t hc
  · cases h
noncomputable def G26 : Env := { pure := [(40, ofT F40), (41, ofT F41)] }
theorem g26 : GOK Tryd.prog G26 := GOK.also (GOK.also g0 ok41) ok40
def F26 : List AV → Tr AV
  | [.str s] => .gd (small s.length) (.leaf (.bool (naB s && lowS s == s)))
  | _ => .no
theorem ok26 : SumOK Tryd.prog 26 (ofT F26) ∧ SNat (ofT F26) := by
  refine fn0 g26 Tryd.func26 (by kernel_rfl) fun ρ avs k r h => ?_
  unfold F26 at h
  split at h
  · rename_i s
    obtain ⟨hc, hk⟩ := gd_some h
    refine Eq.trans (b := bif small s.length then bif naB s then bif small s.length then k (AV.bool (lowS s == s)) else none else k (AV.bool false) else none) (by kernel_rfl) ?_
    rw [← hk, hc]
    show _ = k (.bool (naB s && lowS s == s))
    cases naB s <;> rfl
  · cases h
/-! Named -/
def smI (n : Int) : Bool := inR n 97 122 || (inR n 48 57 || (n == 45 || (n == 95 || n == 46)))
noncomputable def G16 : Env := { pure := [(18, ofT F18)] }
theorem g16 : GOK Tryd.prog G16 := GOK.also g0 ok18
noncomputable def b16 : Code := ((Tryd.f16.body.map loopsOf).getD []).headD .skip
def L16 : List AV → List (Option Row) → Tr LOut
  | [.str s, .bool b, .int .i64 i], [] =>
    .gd (cnt s.length i s.length) (sT (fun i => !smI (atI s i)) s.length (fun q => .leaf (.ret, [.str s, .bool false, .int .i64 (q : Nat)], [])) (.leaf (.exit 0, [.str s, .bool b, .int .i64 s.length], [])) i.toNat)
  | _, _ => .no
def l16 : Ev.Loop := ⟨{ len := 38, slots := [0, 2, 3] }, ofL L16⟩
def μ16 (vs : List AV) (_ : List (Option Row)) : Nat := match vs with
  | [.str s, _, .int _ i] => ((s.length : Int) - i).toNat
  | _ => 0
theorem loop16 : LoopOK Tryd.prog G16 [(2, l16)] b16 l16 := by
  refine loopT g16.natOK rfl (KOK.nil (by kernel_rfl)) μ16 (fun ρ vs rs k r h => ?_)
  unfold L16 at h
  split at h
  · rename_i s b i
    obtain ⟨hc, hk⟩ := gd_some h
    obtain ⟨_, hs, j, rfl, hj⟩ := cnt_spec hc
    rw [Int.toNat_natCast] at hk
    refine Eq.trans (b := bif decide ((↑j : Int) < (↑s.length : Int)) then bif inb (↑j : Int) s.length then bif !inR (IntKind.i64.wrap (↑(s.getD j (0 : UInt8)).toNat : Int)) (97 : Int) (122 : Int) then bif !inR (IntKind.i64.wrap (↑(s.getD j (0 : UInt8)).toNat : Int)) (48 : Int) (57 : Int) then bif IntKind.i64.wrap (↑(s.getD j (0 : UInt8)).toNat : Int) != (45 : Int) then bif IntKind.i64.wrap (↑(s.getD j (0 : UInt8)).toNat : Int) != (95 : Int) then bif IntKind.i64.wrap (↑(s.getD j (0 : UInt8)).toNat : Int) != (46 : Int) then k Ex.ret [AV.str s, AV.bool false, AV.int IntKind.i64 (↑j : Int)] [] else bif decide (((↑s.length : Int) - IntKind.i64.wrap ((↑j : Int) + (1 : Int))).toNat < ((↑s.length : Int) - (↑j : Int)).toNat) then bif cnt (↑s.length : Int) (IntKind.i64.wrap ((↑j : Int) + (1 : Int))) s.length then bif (findN (fun i => !smI (atI s i)) s.length (IntKind.i64.wrap ((↑j : Int) + (1 : Int))).toNat).isSome then k Ex.ret [AV.str s, AV.bool false, AV.int IntKind.i64 (↑((findN (fun i => !smI (atI s i)) s.length (IntKind.i64.wrap ((↑j : Int) + (1 : Int))).toNat).getD (0 : Nat)) : Int)] [] else k (Ex.exit (0 : Nat)) [AV.str s, AV.bool b, AV.int IntKind.i64 (↑s.length : Int)] [] else none else none else bif decide (((↑s.length : Int) - IntKind.i64.wrap ((↑j : Int) + (1 : Int))).toNat < ((↑s.length : Int) - (↑j : Int)).toNat) then bif cnt (↑s.length : Int) (IntKind.i64.wrap ((↑j : Int) + (1 : Int))) s.length then bif (findN (fun i => !smI (atI s i)) s.length (IntKind.i64.wrap ((↑j : Int) + (1 : Int))).toNat).isSome then k Ex.ret [AV.str s, AV.bool false, AV.int IntKind.i64 (↑((findN (fun i => !smI (atI s i)) s.length (IntKind.i64.wrap ((↑j : Int) + (1 : Int))).toNat).getD (0 : Nat)) : Int)] [] else k (Ex.exit (0 : Nat)) [AV.str s, AV.bool b, AV.int IntKind.i64 (↑s.length : Int)] [] else none else none else bif decide (((↑s.length : Int) - IntKind.i64.wrap ((↑j : Int) + (1 : Int))).toNat < ((↑s.length : Int) - (↑j : Int)).toNat) then bif cnt (↑s.length : Int) (IntKind.i64.wrap ((↑j : Int) + (1 : Int))) s.length then bif (findN (fun i => !smI (atI s i)) s.length (IntKind.i64.wrap ((↑j : Int) + (1 : Int))).toNat).isSome then k Ex.ret [AV.str s, AV.bool false, AV.int IntKind.i64 (↑((findN (fun i => !smI (atI s i)) s.length (IntKind.i64.wrap ((↑j : Int) + (1 : Int))).toNat).getD (0 : Nat)) : Int)] [] else k (Ex.exit (0 : Nat)) [AV.str s, AV.bool b, AV.int IntKind.i64 (↑s.length : Int)] [] else none else none else bif decide (((↑s.length : Int) - IntKind.i64.wrap ((↑j : Int) + (1 : Int))).toNat < ((↑s.length : Int) - (↑j : Int)).toNat) then bif cnt (↑s.length : Int) (IntKind.i64.wrap ((↑j : Int) + (1 : Int))) s.length then bif (findN (fun i => !smI (atI s i)) s.length (IntKind.i64.wrap ((↑j : Int) + (1 : Int))).toNat).isSome then k Ex.ret [AV.str s, AV.bool false, AV.int IntKind.i64 (↑((findN (fun i => !smI (atI s i)) s.length (IntKind.i64.wrap ((↑j : Int) + (1 : Int))).toNat).getD (0 : Nat)) : Int)] [] else k (Ex.exit (0 : Nat)) [AV.str s, AV.bool b, AV.int IntKind.i64 (↑s.length : Int)] [] else none else none else bif decide (((↑s.length : Int) - IntKind.i64.wrap ((↑j : Int) + (1 : Int))).toNat < ((↑s.length : Int) - (↑j : Int)).toNat) then bif cnt (↑s.length : Int) (IntKind.i64.wrap ((↑j : Int) + (1 : Int))) s.length then bif (findN (fun i => !smI (atI s i)) s.length (IntKind.i64.wrap ((↑j : Int) + (1 : Int))).toNat).isSome then k Ex.ret [AV.str s, AV.bool false, AV.int IntKind.i64 (↑((findN (fun i => !smI (atI s i)) s.length (IntKind.i64.wrap ((↑j : Int) + (1 : Int))).toNat).getD (0 : Nat)) : Int)] [] else k (Ex.exit (0 : Nat)) [AV.str s, AV.bool b, AV.int IntKind.i64 (↑s.length : Int)] [] else none else none else none else k (Ex.exit (0 : Nat)) [AV.str s, AV.bool b, AV.int IntKind.i64 (↑j : Int)] []) (by kernel_rfl) ?_
    rw [← hk]
    by_cases hlt : j < s.length
    · obtain ⟨e1, e2, e3, e4, e5⟩ := cnt_facts hlt hs
      rw [sT_step _ _ _ _ _ hlt]
      have hb : (s.getD j 0).toNat < 256 := (s.getD j 0).toNat_lt
      have hw : IntKind.i64.wrap (((s.getD j (0 : UInt8)).toNat : Nat) : Int) = atI s j := by unfold atI; exact wrap_small _ (by omega) (by omega)
      rw [hw]
      have hsm : smI (atI s j) = (inR (atI s j) 97 122 || (inR (atI s j) 48 57 || (atI s j == 45 || (atI s j == 95 || atI s j == 46)))) := rfl
      simp only [hsm, e1, e2, e3, e4, e5, cond_true, Int.toNat_natCast]
      cases inR (atI s j) 97 122 <;> cases inR (atI s j) 48 57 <;> cases h1 : atI s j == 45 <;> cases h2 : atI s j == 95 <;> cases h3 : atI s j == 46 <;> simp only [bne, h1, h2, h3] <;> rfl
    · obtain rfl : j = s.length := by omega
      rw [decide_eq_false (by omega), sT_end]
      rfl
  · cases h
def nmS (s : List UInt8) : Bool := allN smI s && inR s.length 1 60
def F16 : List AV → Tr AV
  | [.str s] => .gd (small s.length) (.leaf (.bool (nmS s)))
  | _ => .no
theorem ok16 : SumOK Tryd.prog 16 (ofT F16) ∧ SNat (ofT F16) := by
  refine fn1 (K := [(2, l16)]) (b := b16) (l := l16) g16 Tryd.func16 (by kernel_rfl) (by kernel_rfl) loop16 fun ρ avs k r h => ?_
  unfold F16 at h
  split at h
  · rename_i s
    obtain ⟨hc, hk⟩ := gd_some h
    refine Eq.trans (b := bif cnt (↑s.length : Int) (0 : Int) s.length then bif (findN (fun i => !smI (atI s i)) s.length (0 : Nat)).isSome then k (AV.bool false) else k (AV.bool (inR (↑s.length : Int) (1 : Int) (60 : Int))) else none) (by kernel_rfl) ?_
    rw [← hk, cnt_zero hc]
    show _ = k (.bool (nmS s))
    unfold nmS allN
    cases (findN (fun i => !smI (atI s i)) s.length 0).isSome <;> rfl
  · cases h
theorem allN_iff {p : Int → Bool} {s : List UInt8} : allN p s = true ↔ ∀ i, i < s.length → p (atI s i) = true := by
  unfold allN
  cases h : findN (fun i => !p (atI s i)) s.length 0 with
  | none =>
    refine ⟨fun _ i hi => ?_, fun _ => rfl⟩
    have := findN_none h i (Nat.zero_le _) hi
    simpa using this
  | some q =>
    obtain ⟨_, h2, h3, _⟩ := findN_some h
    refine ⟨fun h => (by cases h), fun hall => ?_⟩
    have := hall q h2
    rw [this] at h3; cases h3
theorem small_name (s : List UInt8) : (naB s && lowS s == s) = nmS s := by
  have key : (naB s && lowS s == s) = true ↔ nmS s = true := by
    unfold naB nmS
    simp only [Bool.and_eq_true, Bool.not_eq_true', decide_eq_true_eq, allN_iff, beq_eq_false_iff_ne, beq_iff_eq]
    have hlow : ∀ n : Int, 0 ≤ n → n ≤ 255 → nmI n = true → (inR n 65 90 = false ↔ smI n = true) := fun n h0 h1 hn => by
      unfold nmI ltI at hn
      unfold smI inR at *
      simp only [Bool.or_eq_true, Bool.and_eq_true, decide_eq_true_eq, beq_iff_eq, Bool.and_eq_false_iff, decide_eq_false_iff_not] at *
      omega
    have hsm : ∀ n : Int, smI n = true → nmI n = true ∧ inR n 65 90 = false := fun n hn => by
      unfold nmI ltI
      unfold smI at hn
      unfold inR at *
      simp only [Bool.or_eq_true, Bool.and_eq_true, decide_eq_true_eq, beq_iff_eq, Bool.and_eq_false_iff, decide_eq_false_iff_not] at *
      omega
    have hat : ∀ i, i < s.length → atI s i = ((s[i]?.getD 0).toNat : Int) := fun i _ => by unfold atI; rw [List.getD_eq_getElem?_getD]
    have hfix : lowS s = s ↔ ∀ i, i < s.length → inR (atI s i) 65 90 = false := by
      constructor
      · intro h i hi
        have := congrArg (fun l => l[i]?) h
        simp only [lowS, List.getElem?_map, List.getElem?_eq_getElem hi, Option.map_some, Option.some.injEq] at this
        have hb : (s[i]).toNat < 256 := (s[i]).toNat_lt
        have hai : atI s i = ((s[i]).toNat : Int) := by unfold atI; rw [List.getD_eq_getElem?_getD, List.getElem?_eq_getElem hi]; rfl
        rw [hai]
        cases hr : inR ((s[i]).toNat : Int) 65 90
        · rfl
        · exfalso
          unfold lowU lowI at this
          rw [hr, cond_true] at this
          have h2 := congrArg UInt8.toNat this
          obtain ⟨r1, r2⟩ := inR_spec hr
          rw [UInt8.toNat_ofNat_of_lt' (by show _ < 256; omega)] at h2
          omega
      · intro h
        unfold lowS
        refine List.ext_getElem (by rw [List.length_map]) fun i h1 h2 => ?_
        rw [List.getElem_map]
        have hai : atI s i = ((s[i]).toNat : Int) := by unfold atI; rw [List.getD_eq_getElem?_getD, List.getElem?_eq_getElem h2]; rfl
        have := h i h2
        rw [hai] at this
        unfold lowU lowI
        rw [this, cond_false, Int.toNat_natCast, UInt8.ofNat_toNat]
    rw [hfix]
    have hb : ∀ i, i < s.length → 0 ≤ atI s i ∧ atI s i ≤ 255 := fun i _ => by
      have : (s.getD i 0).toNat < 256 := (s.getD i 0).toNat_lt
      unfold atI; omega
    constructor
    · rintro ⟨⟨h1, h2, h3⟩, h4⟩
      refine ⟨fun i hi => (hlow _ (hb i hi).1 (hb i hi).2 (h3 i hi)).1 (h4 i hi), ?_⟩
      have : 0 < s.length := List.length_pos_iff.2 h1
      exact inR_of (by omega) h2
    · rintro ⟨h1, h2⟩
      obtain ⟨l1, l2⟩ := inR_spec h2
      refine ⟨⟨fun he => by rw [he] at l1; simp at l1, l2, fun i hi => (hsm _ (h1 i hi)).1⟩, fun i hi => (hsm _ (h1 i hi)).2⟩
  cases h1 : (naB s && lowS s == s) <;> cases h2 : nmS s <;> simp [h1, h2] at key ⊢
theorem ok26' : SumOK Tryd.prog 26 (ofT F16) ∧ SNat (ofT F16) := by
  have : ofT F26 = ofT F16 := by
    funext ρ avs k
    show (F26 avs).run k = (F16 avs).run k
    unfold F26 F16
    split
    · rename_i s
      show _ = (Tr.gd (small s.length) (Tr.leaf (.bool (nmS s)))).run k
      rw [small_name]
    · rfl
  exact this ▸ ok26
end Go.Proofs.YtegeegibnckkkaaDoor

/-
  Rules and policies are checked.
-/
namespace Go.Proofs.YtegeegibnckkkaaDoor
open Go.Ev

def rR (e : AV) : Int := (e.cells.headD .unk).toInt
def rK (e : AV) : Int := (e.cells.tail.headD .unk).toInt
def rS (e : AV) : List UInt8 := (e.cells.tail.tail.headD .unk).toStr
def ruleC (r k : Int) (s : List UInt8) : Int := bif !inR r 1 4 then 3 else bif !inR k 1 4 then 4 else bif k == 1 then (bif !(s == []) then 5 else 0) else bif !nmS s then 10 else 0
noncomputable def G38 : Env := { pure := [(16, ofT F16), (26, ofT F16), (18, ofT F18), (23, evF Tryd.prog G0 [] Tryd.f23), (24, evF Tryd.prog G0 [] Tryd.f24), (28, evF Tryd.prog G0 [] Tryd.f28), (32, evF Tryd.prog G0 [] Tryd.f32)] }
theorem g38 : GOK Tryd.prog G38 := GOK.also (GOK.also (GOK.also (GOK.also (GOK.also (GOK.also (GOK.also g0 (inl g0 Tryd.func32 (by kernel_rfl))) (inl g0 Tryd.func28 (by kernel_rfl))) (inl g0 Tryd.func24 (by kernel_rfl))) (inl g0 Tryd.func23 (by kernel_rfl))) ok18) ok26') ok16
def F37 : List AV → Tr AV
  | [.agg [.int .i64 r, .int .i64 q, .str s]] => .gd (small s.length) (.leaf (.int .i64 (ruleC r q s)))
  | _ => .no
theorem ok37 : SumOK Tryd.prog 37 (ofT F37) ∧ SNat (ofT F37) := by
  refine fn0 g38 Tryd.func37 (by kernel_rfl) fun ρ avs k r h => ?_
  unfold F37 at h
  split at h
  · rename_i r q s
    obtain ⟨hc, hk⟩ := gd_some h
    refine Eq.trans (b := bif !inR r (1 : Int) (4 : Int) then k (AV.int IntKind.i64 (3 : Int)) else bif !inR q (1 : Int) (4 : Int) then k (AV.int IntKind.i64 (4 : Int)) else bif q == (1 : Int) then bif !s == ([] : List UInt8) then k (AV.int IntKind.i64 (5 : Int)) else k (AV.int IntKind.i64 (0 : Int)) else bif small s.length then bif !nmS s then k (AV.int IntKind.i64 (10 : Int)) else k (AV.int IntKind.i64 (0 : Int)) else none) (by kernel_rfl) ?_
    rw [← hk, hc]; show _ = k (.int .i64 (ruleC r q s))
    unfold ruleC
    cases h1 : inR r 1 4 <;> cases h2 : inR q 1 4 <;> cases h3 : (q == 1) <;> cases h4 : (s == []) <;> cases h5 : nmS s <;> simp [*]
  · cases h
def F38 : List AV → Tr AV
  | [.agg [.int .i64 r, .int .i64 q, .str s]] => .gd (small s.length) (.leaf (.int .i64 (ruleC r q s)))
  | _ => .no
theorem ok38 : SumOK Tryd.prog 38 (ofT F38) ∧ SNat (ofT F38) := by
  refine fn0 g38 Tryd.func38 (by kernel_rfl) fun ρ avs k r h => ?_
  unfold F38 at h
  split at h
  · rename_i r q s
    obtain ⟨hc, hk⟩ := gd_some h
    refine Eq.trans (b := bif decide (r < (1 : Int)) then k (AV.int IntKind.i64 (3 : Int)) else bif decide (r > (4 : Int)) then k (AV.int IntKind.i64 (3 : Int)) else bif decide (q < (1 : Int)) then k (AV.int IntKind.i64 (4 : Int)) else bif decide (q > (4 : Int)) then k (AV.int IntKind.i64 (4 : Int)) else bif q == (1 : Int) then bif !s == ([] : List UInt8) then k (AV.int IntKind.i64 (5 : Int)) else bif q != (1 : Int) then bif small s.length then bif !nmS s then k (AV.int IntKind.i64 (10 : Int)) else k (AV.int IntKind.i64 (0 : Int)) else none else k (AV.int IntKind.i64 (0 : Int)) else bif q != (1 : Int) then bif small s.length then bif !nmS s then k (AV.int IntKind.i64 (10 : Int)) else k (AV.int IntKind.i64 (0 : Int)) else none else k (AV.int IntKind.i64 (0 : Int))) (by kernel_rfl) ?_
    rw [← hk, hc]; show _ = k (.int .i64 (ruleC r q s))
    unfold ruleC
    have hne : (q != 1) = !(q == 1) := rfl
    have e1 : inR r 1 4 = (!decide (r < 1) && !decide (r > 4)) := by
      unfold inR; by_cases h1 : r < 1 <;> by_cases h2 : r > 4 <;> simp [*] <;> omega
    have e2 : inR q 1 4 = (!decide (q < 1) && !decide (q > 4)) := by
      unfold inR; by_cases h1 : q < 1 <;> by_cases h2 : q > 4 <;> simp [*] <;> omega
    rw [e1, e2, hne]
    cases h1 : decide (r < 1) <;> cases h1' : decide (r > 4) <;> cases h2 : decide (q < 1) <;> cases h2' : decide (q > 4) <;> cases h3 : (q == 1) <;> cases h4 : (s == []) <;> cases h5 : nmS s <;> simp [*]
  · cases h
end Go.Proofs.YtegeegibnckkkaaDoor

/-
  Policies are checked.
-/
namespace Go.Proofs.YtegeegibnckkkaaDoor
open Go.Ev

def sR : Sh := .agg [.int .i64, .int .i64, .str]
def fault (p : Int × Int) : AV := .agg [.int .i64 p.1, .int .i64 p.2]
def rcE (e : AV) : Int := ruleC (rR e) (rK e) (rS e)
def smR (es : List AV) : Bool := es.all fun e => small (rS e).length
theorem smR_at {es : List AV} (h : smR es = true) {i : Nat} (hi : i < es.length) : small (rS (es.getD i .unk)).length = true := by
  have := List.all_eq_true.1 h (es.getD i .unk) (by rw [getD_eq hi]; exact List.getElem_mem hi)
  exact this
def badR (es : List AV) : Option Nat := findN (fun i => rcE (es.getD i .unk) != 0) es.length 0
def polF (s : List UInt8) (es : List AV) : Int × Int := bif !nmS s then (10, -2) else bif decide ((es.length : Int) > 60) then (2, -1) else bif (badR es).isSome then (rcE (es.getD ((badR es).getD 0) .unk), (((badR es).getD 0 : Nat) : Int)) else (0, 0)
theorem polF_br {α : Type} (s : List UInt8) (es : List AV) (k : AV → α) (z : α) : (bif !nmS s then k (.agg [.int .i64 10, .int .i64 (-2)]) else bif decide ((es.length : Int) > 60) then k (.agg [.int .i64 2, .int .i64 (-1)]) else bif decide (es.length ≤ 60) then bif (badR es).isSome then k (.agg [.int .i64 (rcE (es.getD ((badR es).getD 0) .unk)), .int .i64 (((badR es).getD 0 : Nat) : Int)]) else k (.agg [.int .i64 0, .int .i64 0]) else z) = k (fault (polF s es)) := by
  unfold polF
  cases !nmS s
  · by_cases h : (es.length : Int) > 60
    · rw [decide_eq_true h]; rfl
    · rw [decide_eq_false h, decide_eq_true (by omega : es.length ≤ 60)]
      cases (badR es) <;> rfl
  · rfl
noncomputable def G20 : Env := { pure := [(37, ofT F37), (38, ofT F38), (16, ofT F16), (26, ofT F16), (23, evF Tryd.prog G0 [] Tryd.f23), (24, evF Tryd.prog G0 [] Tryd.f24), (28, evF Tryd.prog G0 [] Tryd.f28)] }
theorem g20 : GOK Tryd.prog G20 := GOK.also (GOK.also (GOK.also (GOK.also (GOK.also (GOK.also (GOK.also g0 (inl g0 Tryd.func28 (by kernel_rfl))) (inl g0 Tryd.func24 (by kernel_rfl))) (inl g0 Tryd.func23 (by kernel_rfl))) ok26') ok16) ok38) ok37
noncomputable def b20 : Code := ((Tryd.f20.body.map loopsOf).getD []).headD .skip
def L20 : List AV → List (Option Row) → Tr LOut
  | [.ptr 0 0, .ptr 1 0, .int .i64 i], [some (.box false [.str s, .slv (.agg [.int .i64, .int .i64, .str]) es]), some (.box false [.int .i64 0, .int .i64 0])] =>
    .gd (cnt es.length i es.length && (decide (es.length ≤ 60) && smR es)) (sT (fun i => rcE (es.getD i .unk) != 0) es.length (fun q => .leaf (.ret, [.ptr 0 0, .ptr 1 0, .int .i64 (q : Nat)], [some (.box false [.str s, .slv sR es]), some (.box false [.int .i64 (rcE (es.getD q .unk)), .int .i64 (q : Int)])]))
     (.leaf (.exit 0, [.ptr 0 0, .ptr 1 0, .int .i64 es.length], [some (.box false [.str s, .slv sR es]), some (.box false [.int .i64 0, .int .i64 0])])) i.toNat)
  | _, _ => .no
def l20 : Ev.Loop := ⟨{ len := 34, slots := [1, 2, 3], rows := [0, 1] }, ofL L20⟩
def μ20 (vs : List AV) (rs : List (Option Row)) : Nat := match vs, rs with
  | [_, _, .int _ i], [some (.box _ [_, .slv _ es]), _] => ((es.length : Int) - i).toNat
  | _, _ => 0
theorem loop20 : LoopOK Tryd.prog G20 [(6, l20)] b20 l20 := by
  refine loopT g20.natOK rfl (KOK.nil (by kernel_rfl)) μ20 (fun ρ vs rs k r h => ?_)
  unfold L20 at h
  split at h
  · rename_i i s es
    obtain ⟨hc, hk⟩ := gd_some h
    simp only [Bool.and_eq_true] at hc
    obtain ⟨hc, hG, hS⟩ := hc
    have hG' := of_decide_eq_true hG
    obtain ⟨_, hs, j, rfl, hj⟩ := cnt_spec hc
    rw [Int.toNat_natCast] at hk
    refine Eq.trans (b := bif decide ((↑j : Int) < (↑es.length : Int)) then bif inb (↑j : Int) es.length then bif small (rS (es.getD j AV.unk)).length then bif ruleC (rR (es.getD j AV.unk)) (rK (es.getD j AV.unk)) (rS (es.getD j AV.unk)) != (0 : Int) then k Ex.ret [AV.ptr (0 : Nat) (0 : Nat), AV.ptr (1 : Nat) (0 : Nat), AV.int IntKind.i64 (↑j : Int)] [some (Row.box false [AV.str s, AV.slv (Sh.agg [Sh.int IntKind.i64, Sh.int IntKind.i64, Sh.str]) es]), some (Row.box false [AV.int IntKind.i64 (ruleC (rR (es.getD j AV.unk)) (rK (es.getD j AV.unk)) (rS (es.getD j AV.unk))), AV.int IntKind.i64 (↑j : Int)])] else bif decide (((↑es.length : Int) - IntKind.i64.wrap ((↑j : Int) + (1 : Int))).toNat < ((↑es.length : Int) - (↑j : Int)).toNat) then bif cnt (↑es.length : Int) (IntKind.i64.wrap ((↑j : Int) + (1 : Int))) es.length && (decide (es.length ≤ (60 : Nat)) && smR es) then bif (findN (fun i => rcE (es.getD i AV.unk) != (0 : Int)) es.length (IntKind.i64.wrap ((↑j : Int) + (1 : Int))).toNat).isSome then k Ex.ret [AV.ptr (0 : Nat) (0 : Nat), AV.ptr (1 : Nat) (0 : Nat), AV.int IntKind.i64 (↑((findN (fun i => rcE (es.getD i AV.unk) != (0 : Int)) es.length (IntKind.i64.wrap ((↑j : Int) + (1 : Int))).toNat).getD (0 : Nat)) : Int)] [some (Row.box false [AV.str s, AV.slv (Sh.agg [Sh.int IntKind.i64, Sh.int IntKind.i64, Sh.str]) es]), some (Row.box false [AV.int IntKind.i64 (rcE (es.getD ((findN (fun i => rcE (es.getD i AV.unk) != (0 : Int)) es.length (IntKind.i64.wrap ((↑j : Int) + (1 : Int))).toNat).getD (0 : Nat)) AV.unk)), AV.int IntKind.i64 (↑((findN (fun i => rcE (es.getD i AV.unk) != (0 : Int)) es.length (IntKind.i64.wrap ((↑j : Int) + (1 : Int))).toNat).getD (0 : Nat)) : Int)])] else k (Ex.exit (0 : Nat)) [AV.ptr (0 : Nat) (0 : Nat), AV.ptr (1 : Nat) (0 : Nat), AV.int IntKind.i64 (↑es.length : Int)] [some (Row.box false [AV.str s, AV.slv (Sh.agg [Sh.int IntKind.i64, Sh.int IntKind.i64, Sh.str]) es]), some (Row.box false [AV.int IntKind.i64 (0 : Int), AV.int IntKind.i64 (0 : Int)])] else none else none else none else none else k (Ex.exit (0 : Nat)) [AV.ptr (0 : Nat) (0 : Nat), AV.ptr (1 : Nat) (0 : Nat), AV.int IntKind.i64 (↑j : Int)] [some (Row.box false [AV.str s, AV.slv (Sh.agg [Sh.int IntKind.i64, Sh.int IntKind.i64, Sh.str]) es]), some (Row.box false [AV.int IntKind.i64 (0 : Int), AV.int IntKind.i64 (0 : Int)])]) (by kernel_rfl) ?_
    rw [← hk]
    by_cases hlt : j < es.length
    · obtain ⟨e1, e2, e3, e4, e5⟩ := cnt_facts hlt hs
      rw [sT_step _ _ _ _ _ hlt]
      have e6 := smR_at hS hlt
      have e7 : (rcE (es.getD j .unk) != 0) = (ruleC (rR (es.getD j .unk)) (rK (es.getD j .unk)) (rS (es.getD j .unk)) != 0) := rfl
      simp only [e1, e2, e3, e4, e5, e6, e7, hG, hS, cond_true, Int.toNat_natCast, Bool.and_self]
      generalize (ruleC (rR (es.getD j .unk)) (rK (es.getD j .unk)) (rS (es.getD j .unk)) != 0) = a1
      cases a1 <;> rfl
    · obtain rfl : j = es.length := by omega
      rw [decide_eq_false (by omega), sT_end]
      rfl
  · cases h
noncomputable def b21 : Code := ((Tryd.f21.body.map loopsOf).getD []).headD .skip
def L21 : List AV → List (Option Row) → Tr LOut
  | [.ptr 1 0, .slv (.agg [.int .i64, .int .i64, .str]) es, .int .i64 n, .int .i64 i], [some (.box false [.int .i64 0, .int .i64 0])] =>
    .gd (cnt n i es.length && (decide (es.length ≤ 60) && smR es)) (sT (fun i => rcE (es.getD i .unk) != 0) es.length (fun q => .leaf (.ret, [.ptr 1 0, .slv sR es, .int .i64 es.length, .int .i64 (q : Nat)], [some (.box false [.int .i64 (rcE (es.getD q .unk)), .int .i64 (q : Int)])]))
     (.leaf (.exit 0, [.ptr 1 0, .slv sR es, .int .i64 es.length, .int .i64 es.length], [some (.box false [.int .i64 0, .int .i64 0])])) i.toNat)
  | _, _ => .no
def l21 : Ev.Loop := ⟨{ len := 33, slots := [2, 17, 18, 19], rows := [1] }, ofL L21⟩
def μ21 (vs : List AV) (_ : List (Option Row)) : Nat := match vs with
  | [_, .slv _ es, _, .int _ i] => ((es.length : Int) - i).toNat
  | _ => 0
theorem loop21 : LoopOK Tryd.prog G20 [(6, l21)] b21 l21 := by
  refine loopT g20.natOK rfl (KOK.nil (by kernel_rfl)) μ21 (fun ρ vs rs k r h => ?_)
  unfold L21 at h
  split at h
  · rename_i es n i
    obtain ⟨hc, hk⟩ := gd_some h
    simp only [Bool.and_eq_true] at hc
    obtain ⟨hc, hG, hS⟩ := hc
    have hG' := of_decide_eq_true hG
    obtain ⟨rfl, hs, j, rfl, hj⟩ := cnt_spec hc
    rw [Int.toNat_natCast] at hk
    refine Eq.trans (b := bif decide ((↑j : Int) < (↑es.length : Int)) then bif inb (↑j : Int) es.length then bif small (rS (es.getD j AV.unk)).length then bif ruleC (rR (es.getD j AV.unk)) (rK (es.getD j AV.unk)) (rS (es.getD j AV.unk)) != (0 : Int) then k Ex.ret [AV.ptr (1 : Nat) (0 : Nat), AV.slv (Sh.agg [Sh.int IntKind.i64, Sh.int IntKind.i64, Sh.str]) es, AV.int IntKind.i64 (↑es.length : Int), AV.int IntKind.i64 (↑j : Int)] [some (Row.box false [AV.int IntKind.i64 (ruleC (rR (es.getD j AV.unk)) (rK (es.getD j AV.unk)) (rS (es.getD j AV.unk))), AV.int IntKind.i64 (↑j : Int)])] else bif decide (((↑es.length : Int) - IntKind.i64.wrap ((↑j : Int) + (1 : Int))).toNat < ((↑es.length : Int) - (↑j : Int)).toNat) then bif cnt (↑es.length : Int) (IntKind.i64.wrap ((↑j : Int) + (1 : Int))) es.length && (decide (es.length ≤ (60 : Nat)) && smR es) then bif (findN (fun i => rcE (es.getD i AV.unk) != (0 : Int)) es.length (IntKind.i64.wrap ((↑j : Int) + (1 : Int))).toNat).isSome then k Ex.ret [AV.ptr (1 : Nat) (0 : Nat), AV.slv (Sh.agg [Sh.int IntKind.i64, Sh.int IntKind.i64, Sh.str]) es, AV.int IntKind.i64 (↑es.length : Int), AV.int IntKind.i64 (↑((findN (fun i => rcE (es.getD i AV.unk) != (0 : Int)) es.length (IntKind.i64.wrap ((↑j : Int) + (1 : Int))).toNat).getD (0 : Nat)) : Int)] [some (Row.box false [AV.int IntKind.i64 (rcE (es.getD ((findN (fun i => rcE (es.getD i AV.unk) != (0 : Int)) es.length (IntKind.i64.wrap ((↑j : Int) + (1 : Int))).toNat).getD (0 : Nat)) AV.unk)), AV.int IntKind.i64 (↑((findN (fun i => rcE (es.getD i AV.unk) != (0 : Int)) es.length (IntKind.i64.wrap ((↑j : Int) + (1 : Int))).toNat).getD (0 : Nat)) : Int)])] else k (Ex.exit (0 : Nat)) [AV.ptr (1 : Nat) (0 : Nat), AV.slv (Sh.agg [Sh.int IntKind.i64, Sh.int IntKind.i64, Sh.str]) es, AV.int IntKind.i64 (↑es.length : Int), AV.int IntKind.i64 (↑es.length : Int)] [some (Row.box false [AV.int IntKind.i64 (0 : Int), AV.int IntKind.i64 (0 : Int)])] else none else none else none else none else k (Ex.exit (0 : Nat)) [AV.ptr (1 : Nat) (0 : Nat), AV.slv (Sh.agg [Sh.int IntKind.i64, Sh.int IntKind.i64, Sh.str]) es, AV.int IntKind.i64 (↑es.length : Int), AV.int IntKind.i64 (↑j : Int)] [some (Row.box false [AV.int IntKind.i64 (0 : Int), AV.int IntKind.i64 (0 : Int)])]) (by kernel_rfl) ?_
    rw [← hk]
    by_cases hlt : j < es.length
    · obtain ⟨e1, e2, e3, e4, e5⟩ := cnt_facts hlt hs
      rw [sT_step _ _ _ _ _ hlt]
      have e6 := smR_at hS hlt
      have e7 : (rcE (es.getD j .unk) != 0) = (ruleC (rR (es.getD j .unk)) (rK (es.getD j .unk)) (rS (es.getD j .unk)) != 0) := rfl
      simp only [e1, e2, e3, e4, e5, e6, e7, hG, hS, cond_true, Int.toNat_natCast, Bool.and_self]
      generalize (ruleC (rR (es.getD j .unk)) (rK (es.getD j .unk)) (rS (es.getD j .unk)) != 0) = a1
      cases a1 <;> rfl
    · obtain rfl : j = es.length := by omega
      rw [decide_eq_false (by omega), sT_end]
      rfl
  · cases h
def F20 : List AV → Tr AV
  | [.agg [.str s, .slv (.agg [.int .i64, .int .i64, .str]) es]] => .gd (small s.length && (small es.length && smR es)) (.leaf (fault (polF s es)))
  | _ => .no
theorem ok20 : SumOK Tryd.prog 20 (ofT F20) ∧ SNat (ofT F20) := by
  refine fn1 (K := [(6, l20)]) (b := b20) (l := l20) g20 Tryd.func20 (by kernel_rfl) (by kernel_rfl) loop20 fun ρ avs k r h => ?_
  unfold F20 at h
  split at h
  · rename_i s es
    obtain ⟨hc, hk⟩ := gd_some h
    simp only [Bool.and_eq_true] at hc
    obtain ⟨hc, hs, hS⟩ := hc
    refine Eq.trans (b := bif small s.length then bif !nmS s then k (AV.agg [AV.int IntKind.i64 (10 : Int), AV.int IntKind.i64 (-2 : Int)]) else bif decide ((↑es.length : Int) > (60 : Int)) then k (AV.agg [AV.int IntKind.i64 (2 : Int), AV.int IntKind.i64 (-1 : Int)]) else bif cnt (↑es.length : Int) (0 : Int) es.length && (decide (es.length ≤ (60 : Nat)) && smR es) then bif (findN (fun i => rcE (es.getD i AV.unk) != (0 : Int)) es.length (0 : Nat)).isSome then k (AV.agg [AV.int IntKind.i64 (rcE (es.getD ((findN (fun i => rcE (es.getD i AV.unk) != (0 : Int)) es.length (0 : Nat)).getD (0 : Nat)) AV.unk)), AV.int IntKind.i64 (↑((findN (fun i => rcE (es.getD i AV.unk) != (0 : Int)) es.length (0 : Nat)).getD (0 : Nat)) : Int)]) else k (AV.agg [AV.int IntKind.i64 (0 : Int), AV.int IntKind.i64 (0 : Int)]) else none else none) (by kernel_rfl) ?_
    rw [← hk]
    rw [hc, cnt_zero hs, hS, Bool.true_and, Bool.and_true]
    exact polF_br s es k none
  · cases h
theorem ok21 : SumOK Tryd.prog 21 (ofT F20) ∧ SNat (ofT F20) := by
  refine fn1 (K := [(6, l21)]) (b := b21) (l := l21) g20 Tryd.func21 (by kernel_rfl) (by kernel_rfl) loop21 fun ρ avs k r h => ?_
  unfold F20 at h
  split at h
  · rename_i s es
    obtain ⟨hc, hk⟩ := gd_some h
    simp only [Bool.and_eq_true] at hc
    obtain ⟨hc, hs, hS⟩ := hc
    refine Eq.trans (b := bif small s.length then bif !nmS s then k (AV.agg [AV.int IntKind.i64 (10 : Int), AV.int IntKind.i64 (-2 : Int)]) else bif decide ((↑es.length : Int) > (60 : Int)) then k (AV.agg [AV.int IntKind.i64 (2 : Int), AV.int IntKind.i64 (-1 : Int)]) else bif cnt (↑es.length : Int) (0 : Int) es.length && (decide (es.length ≤ (60 : Nat)) && smR es) then bif (findN (fun i => rcE (es.getD i AV.unk) != (0 : Int)) es.length (0 : Nat)).isSome then k (AV.agg [AV.int IntKind.i64 (rcE (es.getD ((findN (fun i => rcE (es.getD i AV.unk) != (0 : Int)) es.length (0 : Nat)).getD (0 : Nat)) AV.unk)), AV.int IntKind.i64 (↑((findN (fun i => rcE (es.getD i AV.unk) != (0 : Int)) es.length (0 : Nat)).getD (0 : Nat)) : Int)]) else k (AV.agg [AV.int IntKind.i64 (0 : Int), AV.int IntKind.i64 (0 : Int)]) else none else none) (by kernel_rfl) ?_
    rw [← hk]
    rw [hc, cnt_zero hs, hS, Bool.true_and, Bool.and_true]
    exact polF_br s es k none
  · cases h
end Go.Proofs.YtegeegibnckkkaaDoor

/-
  The policies of a check: the search for a domain, which of them is at fault.
-/
namespace Go.Proofs.YtegeegibnckkkaaDoor
open Go.Ev

def sP : Sh := .agg [.str, .slice (.agg [.int .i64, .int .i64, .str])]
def pS (e : AV) : List UInt8 := (e.cells.headD .unk).toStr
def pR (e : AV) : List AV := (e.cells.tail.headD .unk).toList
def isP (d : List UInt8) (e : AV) : Bool := pS e == d
noncomputable def G45 : Env := { pure := [(34, evF Tryd.prog G0 [] Tryd.f34), (46, evF Tryd.prog G0 [] Tryd.f46)] }
theorem g45 : GOK Tryd.prog G45 := GOK.also (GOK.also g0 (inl g0 Tryd.func46 (by kernel_rfl))) (inl g0 Tryd.func34 (by kernel_rfl))
noncomputable def b45 : Code := ((Tryd.f45.body.map loopsOf).getD []).headD .skip
def fP (d : List UInt8) (es : List AV) (i : Nat) : Option Nat := findN (fun i => isP d (es.getD i .unk)) es.length i
def iZ (x : Option Nat) : Int := match x with
  | some n => n
  | none => -1
def L45 : List AV → List (Option Row) → Tr LOut
  | [.slv (.agg [.str, .slice (.agg [.int .i64, .int .i64, .str])]) es, .fn 34 [.ref [.str d, .slv s0 rs]], .int .i64 z, .int .i64 n, .int .i64 i], [] =>
    .gd (cnt n i es.length) (sT (fun i => isP d (es.getD i .unk)) es.length (fun q => .leaf (.ret, [.slv sP es, .fn 34 [.ref [.str d, .slv s0 rs]], .int .i64 (q : Nat), .int .i64 es.length, .int .i64 (q : Nat)], []))
     (.leaf (.exit 0, [.slv sP es, .fn 34 [.ref [.str d, .slv s0 rs]], .int .i64 z, .int .i64 es.length, .int .i64 es.length], [])) i.toNat)
  | [.slv (.agg [.str, .slice (.agg [.int .i64, .int .i64, .str])]) es, .fn 46 [.ref [.str d]], .int .i64 z, .int .i64 n, .int .i64 i], [] =>
    .gd (cnt n i es.length) (sT (fun i => isP d (es.getD i .unk)) es.length (fun q => .leaf (.ret, [.slv sP es, .fn 46 [.ref [.str d]], .int .i64 (q : Nat), .int .i64 es.length, .int .i64 (q : Nat)], []))
     (.leaf (.exit 0, [.slv sP es, .fn 46 [.ref [.str d]], .int .i64 z, .int .i64 es.length, .int .i64 es.length], [])) i.toNat)
  | _, _ => .no
def l45 : Ev.Loop := ⟨{ len := 19, slots := [0, 1, 4, 7, 8] }, ofL L45⟩
def μ45 (vs : List AV) (_ : List (Option Row)) : Nat := match vs with
  | [_, _, _, .int _ n, .int _ i] => (n - i).toNat
  | _ => 0
theorem loop45 : LoopOK Tryd.prog G45 [(2, l45)] b45 l45 := by
  refine loopT g45.natOK rfl (KOK.nil (by kernel_rfl)) μ45 (fun ρ vs rs k r h => ?_)
  unfold L45 at h
  split at h
  · rename_i es d s0 rs z n i
    obtain ⟨hc, hk⟩ := gd_some h
    obtain ⟨rfl, hs, j, rfl, hj⟩ := cnt_spec hc
    rw [Int.toNat_natCast] at hk
    refine Eq.trans (b := bif decide ((↑j : Int) < (↑es.length : Int)) then bif inb (↑j : Int) es.length then bif (pS (es.getD j AV.unk)) == d then k Ex.ret [AV.slv (Sh.agg [Sh.str, (Sh.agg [Sh.int IntKind.i64, Sh.int IntKind.i64, Sh.str]).slice]) es, AV.fn (34 : Nat) [AV.ref [AV.str d, AV.slv s0 rs]], AV.int IntKind.i64 (↑j : Int), AV.int IntKind.i64 (↑es.length : Int), AV.int IntKind.i64 (↑j : Int)] [] else bif decide (((↑es.length : Int) - IntKind.i64.wrap ((↑j : Int) + (1 : Int))).toNat < ((↑es.length : Int) - (↑j : Int)).toNat) then bif cnt (↑es.length : Int) (IntKind.i64.wrap ((↑j : Int) + (1 : Int))) es.length then bif (findN (fun i => isP d (es.getD i AV.unk)) es.length (IntKind.i64.wrap ((↑j : Int) + (1 : Int))).toNat).isSome then k Ex.ret [AV.slv (Sh.agg [Sh.str, (Sh.agg [Sh.int IntKind.i64, Sh.int IntKind.i64, Sh.str]).slice]) es, AV.fn (34 : Nat) [AV.ref [AV.str d, AV.slv s0 rs]], AV.int IntKind.i64 (↑((findN (fun i => isP d (es.getD i AV.unk)) es.length (IntKind.i64.wrap ((↑j : Int) + (1 : Int))).toNat).getD (0 : Nat)) : Int), AV.int IntKind.i64 (↑es.length : Int), AV.int IntKind.i64 (↑((findN (fun i => isP d (es.getD i AV.unk)) es.length (IntKind.i64.wrap ((↑j : Int) + (1 : Int))).toNat).getD (0 : Nat)) : Int)] [] else k (Ex.exit (0 : Nat)) [AV.slv (Sh.agg [Sh.str, (Sh.agg [Sh.int IntKind.i64, Sh.int IntKind.i64, Sh.str]).slice]) es, AV.fn (34 : Nat) [AV.ref [AV.str d, AV.slv s0 rs]], AV.int IntKind.i64 z, AV.int IntKind.i64 (↑es.length : Int), AV.int IntKind.i64 (↑es.length : Int)] [] else none else none else none else k (Ex.exit (0 : Nat)) [AV.slv (Sh.agg [Sh.str, (Sh.agg [Sh.int IntKind.i64, Sh.int IntKind.i64, Sh.str]).slice]) es, AV.fn (34 : Nat) [AV.ref [AV.str d, AV.slv s0 rs]], AV.int IntKind.i64 z, AV.int IntKind.i64 (↑es.length : Int), AV.int IntKind.i64 (↑j : Int)] []) (by kernel_rfl) ?_
    rw [← hk]
    by_cases hlt : j < es.length
    · obtain ⟨e1, e2, e3, e4, e5⟩ := cnt_facts hlt hs
      rw [sT_step _ _ _ _ _ hlt]
      have e7 : isP d (es.getD j .unk) = (pS (es.getD j .unk) == d) := rfl
      simp only [e1, e2, e3, e4, e5, e7, cond_true, Int.toNat_natCast]
      generalize (pS (es.getD j .unk) == d) = a1
      cases a1 <;> rfl
    · obtain rfl : j = es.length := by omega
      rw [decide_eq_false (by omega), sT_end]
      rfl
  · rename_i es d z n i
    obtain ⟨hc, hk⟩ := gd_some h
    obtain ⟨rfl, hs, j, rfl, hj⟩ := cnt_spec hc
    rw [Int.toNat_natCast] at hk
    refine Eq.trans (b := bif decide ((↑j : Int) < (↑es.length : Int)) then bif inb (↑j : Int) es.length then bif (pS (es.getD j AV.unk)) == d then k Ex.ret [AV.slv (Sh.agg [Sh.str, (Sh.agg [Sh.int IntKind.i64, Sh.int IntKind.i64, Sh.str]).slice]) es, AV.fn (46 : Nat) [AV.ref [AV.str d]], AV.int IntKind.i64 (↑j : Int), AV.int IntKind.i64 (↑es.length : Int), AV.int IntKind.i64 (↑j : Int)] [] else bif decide (((↑es.length : Int) - IntKind.i64.wrap ((↑j : Int) + (1 : Int))).toNat < ((↑es.length : Int) - (↑j : Int)).toNat) then bif cnt (↑es.length : Int) (IntKind.i64.wrap ((↑j : Int) + (1 : Int))) es.length then bif (findN (fun i => isP d (es.getD i AV.unk)) es.length (IntKind.i64.wrap ((↑j : Int) + (1 : Int))).toNat).isSome then k Ex.ret [AV.slv (Sh.agg [Sh.str, (Sh.agg [Sh.int IntKind.i64, Sh.int IntKind.i64, Sh.str]).slice]) es, AV.fn (46 : Nat) [AV.ref [AV.str d]], AV.int IntKind.i64 (↑((findN (fun i => isP d (es.getD i AV.unk)) es.length (IntKind.i64.wrap ((↑j : Int) + (1 : Int))).toNat).getD (0 : Nat)) : Int), AV.int IntKind.i64 (↑es.length : Int), AV.int IntKind.i64 (↑((findN (fun i => isP d (es.getD i AV.unk)) es.length (IntKind.i64.wrap ((↑j : Int) + (1 : Int))).toNat).getD (0 : Nat)) : Int)] [] else k (Ex.exit (0 : Nat)) [AV.slv (Sh.agg [Sh.str, (Sh.agg [Sh.int IntKind.i64, Sh.int IntKind.i64, Sh.str]).slice]) es, AV.fn (46 : Nat) [AV.ref [AV.str d]], AV.int IntKind.i64 z, AV.int IntKind.i64 (↑es.length : Int), AV.int IntKind.i64 (↑es.length : Int)] [] else none else none else none else k (Ex.exit (0 : Nat)) [AV.slv (Sh.agg [Sh.str, (Sh.agg [Sh.int IntKind.i64, Sh.int IntKind.i64, Sh.str]).slice]) es, AV.fn (46 : Nat) [AV.ref [AV.str d]], AV.int IntKind.i64 z, AV.int IntKind.i64 (↑es.length : Int), AV.int IntKind.i64 (↑j : Int)] []) (by kernel_rfl) ?_
    rw [← hk]
    by_cases hlt : j < es.length
    · obtain ⟨e1, e2, e3, e4, e5⟩ := cnt_facts hlt hs
      rw [sT_step _ _ _ _ _ hlt]
      have e7 : isP d (es.getD j .unk) = (pS (es.getD j .unk) == d) := rfl
      simp only [e1, e2, e3, e4, e5, e7, cond_true, Int.toNat_natCast]
      generalize (pS (es.getD j .unk) == d) = a1
      cases a1 <;> rfl
    · obtain rfl : j = es.length := by omega
      rw [decide_eq_false (by omega), sT_end]
      rfl
  · cases h
def F45 : List AV → Tr AV
  | [.slv (.agg [.str, .slice (.agg [.int .i64, .int .i64, .str])]) es, .fn 34 [.ref [.str d, .slv _ _]]] => .gd (small es.length) (.leaf (.int .i64 (iZ (fP d es 0))))
  | [.slv (.agg [.str, .slice (.agg [.int .i64, .int .i64, .str])]) es, .fn 46 [.ref [.str d]]] => .gd (small es.length) (.leaf (.int .i64 (iZ (fP d es 0))))
  | _ => .no
theorem ok45 : SumOK Tryd.prog 45 (ofT F45) ∧ SNat (ofT F45) := by
  refine fn1 (K := [(2, l45)]) (b := b45) (l := l45) g45 Tryd.func45 (by kernel_rfl) (by kernel_rfl) loop45 fun ρ avs k r h => ?_
  unfold F45 at h
  split at h
  · rename_i es d s0 rs
    obtain ⟨hc, hk⟩ := gd_some h
    refine Eq.trans (b := bif cnt (↑es.length : Int) (0 : Int) es.length then bif (findN (fun i => isP d (es.getD i AV.unk)) es.length (0 : Nat)).isSome then k (AV.int IntKind.i64 (↑((findN (fun i => isP d (es.getD i AV.unk)) es.length (0 : Nat)).getD (0 : Nat)) : Int)) else k (AV.int IntKind.i64 (-1 : Int)) else none) (by kernel_rfl) ?_
    rw [← hk, cnt_zero hc]
    show (bif true then bif (fP d es 0).isSome then k (.int .i64 (((fP d es 0).getD 0 : Nat) : Int)) else k (.int .i64 (-1)) else none) = _
    cases fP d es 0 <;> rfl
  · rename_i es d
    obtain ⟨hc, hk⟩ := gd_some h
    refine Eq.trans (b := bif cnt (↑es.length : Int) (0 : Int) es.length then bif (findN (fun i => isP d (es.getD i AV.unk)) es.length (0 : Nat)).isSome then k (AV.int IntKind.i64 (↑((findN (fun i => isP d (es.getD i AV.unk)) es.length (0 : Nat)).getD (0 : Nat)) : Int)) else k (AV.int IntKind.i64 (-1 : Int)) else none) (by kernel_rfl) ?_
    rw [← hk, cnt_zero hc]
    show (bif true then bif (fP d es 0).isSome then k (.int .i64 (((fP d es 0).getD 0 : Nat) : Int)) else k (.int .i64 (-1)) else none) = _
    cases fP d es 0 <;> rfl
  · cases h
noncomputable def G33 : Env := { pure := [(45, ofT F45)] }
theorem g33 : GOK Tryd.prog G33 := GOK.also g0 ok45
def F33 : List AV → Tr AV
  | [.slv (.agg [.str, .slice (.agg [.int .i64, .int .i64, .str])]) es, .fn 34 [.ref [.str d, .slv _ _]]] => .gd (small es.length) (.leaf (.bool (decide (iZ (fP d es 0) ≥ 0))))
  | _ => .no
theorem ok33 : SumOK Tryd.prog 33 (ofT F33) ∧ SNat (ofT F33) := by
  refine fn0 g33 Tryd.func33 (by kernel_rfl) fun ρ avs k r h => ?_
  unfold F33 at h
  split at h
  · rename_i es d s0 rs
    obtain ⟨hc, hk⟩ := gd_some h
    refine Eq.trans (b := bif small es.length then k (AV.bool (decide (iZ (fP d es (0 : Nat)) ≥ (0 : Int)))) else none) (by kernel_rfl) ?_
    rw [← hk, hc]
    rfl
  · cases h
end Go.Proofs.YtegeegibnckkkaaDoor

/-
  Further calls that the model answers itself: a byte sought in a string, and counted.
-/
namespace Go.Ev
open Go.RowKit

def idxB (s : List UInt8) (c : Int) : Int := Lib.indexByte s c.toNat.toUInt8
def Fidx : Summ := fun _ avs k => match avs with
  | [.str s, .int .u8 c] => k (.int .i64 (idxB s c))
  | _ => none
theorem snat_idx : SNat Fidx := fun ρ avs k => by unfold Fidx; split <;> rfl
theorem idx_ok {P : Program} {f : FuncId} {fn : Func} (hfn : P.funcs[f]? = some fn) (hname : (fn.name == "runtime.NumGoroutine") = false) (hb : fn.body.isNone = true) (hn : Extern.findNext fn = none) (he : Extern.find fn = some Extern.BytealgIndexByte.indexByte) : SumOK P f Fidx ∧ SNat Fidx := by
  refine ⟨fun ρ w S avs args k r hS hv h => ?_, snat_idx⟩
  unfold Fidx at h
  split at h
  · rename_i s c
    obtain ⟨v, vs, rfl, h1, hv⟩ := hv.inv
    obtain ⟨u, us, rfl, h2, hv⟩ := hv.inv
    obtain rfl := hv.inv_nil
    rw [h1.str_inv, h2.int_inv]
    refine .inr ⟨noBody hfn hb, .int .i64 (idxB s c), w, ?_, ⟨_, _, fun _ => False, rfl, h, Below.refl _ _, fun _ h => h.elim, fun _ h => h.elim, .int _ _ _⟩⟩
    rw [run_callFunc_extern hfn hname hb hn he]
    show ((Extern.BytealgIndexByte.indexByte #[.string ⟨s.toArray⟩, .int .u8 c]).run P w).andThen _ = _
    rw [Lib.run_indexByteString]
    rfl
  · cases h
def cntB (s : List UInt8) (c : Int) : Nat := Lib.countByte s c.toNat.toUInt8
def Fcnt : Summ := fun _ avs k => match avs with
  | [.str s, .int .u8 c] => k (.int .i64 (cntB s c : Nat))
  | _ => none
theorem snat_cnt : SNat Fcnt := fun ρ avs k => by unfold Fcnt; split <;> rfl
theorem cnt_ok {P : Program} {f : FuncId} {fn : Func} (hfn : P.funcs[f]? = some fn) (hname : (fn.name == "runtime.NumGoroutine") = false) (hb : fn.body.isNone = true) (hn : Extern.findNext fn = none) (he : Extern.find fn = some Extern.BytealgCount.count) : SumOK P f Fcnt ∧ SNat Fcnt := by
  refine ⟨fun ρ w S avs args k r hS hv h => ?_, snat_cnt⟩
  unfold Fcnt at h
  split at h
  · rename_i s c
    obtain ⟨v, vs, rfl, h1, hv⟩ := hv.inv
    obtain ⟨u, us, rfl, h2, hv⟩ := hv.inv
    obtain rfl := hv.inv_nil
    rw [h1.str_inv, h2.int_inv]
    refine .inr ⟨noBody hfn hb, .int .i64 (cntB s c : Nat), w, ?_, ⟨_, _, fun _ => False, rfl, h, Below.refl _ _, fun _ h => h.elim, fun _ h => h.elim, .int _ _ _⟩⟩
    rw [run_callFunc_extern hfn hname hb hn he]
    show ((Extern.BytealgCount.count #[.string ⟨s.toArray⟩, .int .u8 c]).run P w).andThen _ = _
    rw [Lib.run_countString]
    rfl
  · cases h
end Go.Ev

namespace Go.Proofs.YtegeegibnckkkaaDoor
open Go.Ev

noncomputable def G54 : Env := { pure := [(61, Fidx), (59, Fcnt)] }
theorem g54 : GOK Tryd.prog G54 := GOK.also (GOK.also g0 (cnt_ok Tryd.func59 (by kernel_rfl) (by kernel_rfl) (by kernel_rfl) (by kernel_rfl))) (idx_ok Tryd.func61 (by kernel_rfl) (by kernel_rfl) (by kernel_rfl) (by kernel_rfl))
def F54 : List AV → Tr AV
  | [.str s, .int .u8 c] => .leaf (.int .i64 (idxB s c))
  | _ => .no
theorem ok54 : SumOK Tryd.prog 54 (ofT F54) ∧ SNat (ofT F54) := by
  refine fn0 g54 Tryd.func54 (by kernel_rfl) fun ρ avs k r h => ?_
  unfold F54 at h
  split at h
  · rename_i s c
    have hk := h
    refine Eq.trans (b := k (AV.int IntKind.i64 (idxB s c))) (by kernel_rfl) ?_
    rw [← hk]
    rfl
  · cases h
noncomputable def G60 : Env := { pure := [(61, Fidx), (59, Fcnt), (54, ofT F54)] }
theorem g60 : GOK Tryd.prog G60 := GOK.also (GOK.also (GOK.also g0 ok54) (cnt_ok Tryd.func59 (by kernel_rfl) (by kernel_rfl) (by kernel_rfl) (by kernel_rfl))) (idx_ok Tryd.func61 (by kernel_rfl) (by kernel_rfl) (by kernel_rfl) (by kernel_rfl))
theorem loopNo {P : Program} {Γ : Env} {K : List (Nat × Ev.Loop)} {b : Code} {N : Norm} (hN : NatOK Γ) (hfk : Γ.fork = false) (hK : KOK P Γ K b) : LoopOK P Γ K b ⟨N, ofL fun _ _ => .no⟩ := loopT hN hfk hK (fun _ _ => 0) fun _ _ _ _ _ h => by cases h
noncomputable def b60 : Code := ((Tryd.f60.body.map loopsOf).getD []).headD .skip
def no60 : Ev.Loop := ⟨{ len := 143, slots := [] }, ofL fun _ _ => .no⟩
theorem noLoop60 : LoopOK Tryd.prog G60 [(15, no60)] b60 no60 := loopNo g60.natOK rfl (KOK.nil (by kernel_rfl))
def F60 : List AV → Tr AV
  | [.str s, .str [c]] => .leaf (.int .i64 (idxB s c.toNat))
  | _ => .no
theorem idx_one (c : UInt8) : idxB [c] c.toNat = 0 := by
  show Lib.indexByte [c] (c.toNat : Int).toNat.toUInt8 = 0
  have e : (c.toNat : Int).toNat.toUInt8 = c := by rw [Int.toNat_natCast]; exact UInt8.ofNat_toNat
  rw [e]
  unfold Lib.indexByte
  simp
theorem ok60 : SumOK Tryd.prog 60 (ofT F60) ∧ SNat (ofT F60) := by
  refine fn1 (K := [(15, no60)]) (b := b60) (l := no60) g60 Tryd.func60 (by kernel_rfl) (by kernel_rfl) noLoop60 fun ρ avs k r h => ?_
  unfold F60 at h
  split at h
  · rename_i s c
    have hk := h
    refine Eq.trans (b := bif [c] == s then k (AV.int IntKind.i64 (0 : Int)) else k (AV.int IntKind.i64 (idxB s (↑([c].getD (0 : Nat) (0 : UInt8)).toNat : Int)))) (by kernel_rfl) ?_
    rw [← hk]
    show (bif [c] == s then k (.int .i64 0) else k (.int .i64 (idxB s c.toNat))) = k (.int .i64 (idxB s c.toNat))
    cases hb : [c] == s
    · rfl
    · have := beq_iff_eq.1 hb
      subst this
      rw [idx_one]; rfl
  · cases h
noncomputable def b49 : Code := ((Tryd.f49.body.map loopsOf).getD []).headD .skip
def no49 : Ev.Loop := ⟨{ len := 34, slots := [] }, ofL fun _ _ => .no⟩
theorem noLoop49 : LoopOK Tryd.prog G60 [(6, no49)] b49 no49 := loopNo g60.natOK rfl (KOK.nil (by kernel_rfl))
def F49 : List AV → Tr AV
  | [.str s, .str [c]] => .leaf (.int .i64 (cntB s c.toNat : Nat))
  | _ => .no
theorem ok49 : SumOK Tryd.prog 49 (ofT F49) ∧ SNat (ofT F49) := by
  refine fn1 (K := [(6, no49)]) (b := b49) (l := no49) g60 Tryd.func49 (by kernel_rfl) (by kernel_rfl) noLoop49 fun ρ avs k r h => ?_
  unfold F49 at h
  split at h
  · rename_i s c
    have hk := h
    refine Eq.trans (b := k (AV.int IntKind.i64 (↑(cntB s (↑([c].getD (0 : Nat) (0 : UInt8)).toNat : Int)) : Int))) (by kernel_rfl) ?_
    rw [← hk]
    rfl
  · cases h
noncomputable def G39 : Env := { pure := [(49, ofT F49), (50, evF Tryd.prog { pure := [(60, ofT F60)] } [] Tryd.f50)] }
theorem g39 : GOK Tryd.prog G39 := GOK.also (GOK.also g0 (inl (GOK.also g0 ok60) Tryd.func50 (by kernel_rfl))) ok49
end Go.Proofs.YtegeegibnckkkaaDoor
