/-
  One round of a loop over a function: what a call of the function that it hands over comes to.
-/
import Derived.Test.YtghinideddfcpaaDoorEvZ
import Derived.Lib.Join
import Derived.Shelf.Strings.Builder1
import Derived.Shelf.Strings.Builder2
import Derived.Shelf.Small.Utf8
import Derived.Shelf.Small.Bits
import Derived.Shelf.Strings.BuilderF
import Derived.Shelf.Strings.BuilderK
import Derived.Shelf.Utf8.RuneCount
import Derived.Shelf.Strings.Builder2Cap
import Derived.Shelf.Sort.Plain
import Derived.Shelf.Unicode.Latin
import Derived.Shelf.Unicode.Props
import Derived.Shelf.LaysM
import Derived.Shelf.Unicode.PropsLaid
import Derived.Shelf.Unicode.Decode
import Derived.Shelf.Strings.RuneCount
import Derived.Shelf.Unicode.DecodeSlow
import Derived.Shelf.Unicode.DecodeAny
import Derived.Shelf.Strings.FieldsFuncAny
import Derived.Shelf.Unicode.CaseLookup
import Derived.Shelf.Unicode.CaseConvert
import Derived.Shelf.Unicode.CaseTo
import Derived.Shelf.Unicode.CaseLaid
import Derived.Shelf.Strings.MapAny
import Derived.Shelf.Unicode.Is16Any
import Derived.Shelf.Unicode.Is32Any
import Derived.Shelf.Unicode.ExclAny
import Derived.Shelf.Unicode.PredsAny
import Derived.Shelf.Strings.FieldsFuncGrows
import Derived.Shelf.Unicode.PredsPay
import Derived.Shelf.Strings.BuilderCap
import Derived.Shelf.Strings.MapGrows
import Derived.Shelf.Slices.Clone
import Derived.Shelf.Slices.CompactS
import Derived.Shelf.Slices.Cells
import Derived.Shelf.Slices.In.SortNone
import Derived.Shelf.SlicesE.Clone
import Derived.WalkKit
import Derived.WalkMore
import Derived.Shelf.Strings.CaseAny
import Derived.Sort.OwnSorted
import Derived.Lib.OwnBridge
import Derived.RangeFuncIn
/-
  The order of strings.
-/
namespace Go.Ev

def blt (a b : List UInt8) : Bool := Op.bytesLess a b
theorem blt_irrefl : ∀ a, blt a a = false
  | [] => rfl
  | x :: a => by
    have := blt_irrefl a
    unfold blt at this ⊢
    simp [Op.bytesLess, this]
theorem blt_trans : ∀ {a b c : List UInt8}, blt a b = true → blt b c = true → blt a c = true
  | a, [], c, h, _ => by unfold blt at h; cases a <;> simp [Op.bytesLess] at h
  | _, _ :: _, [], _, h => by unfold blt at h; simp [Op.bytesLess] at h
  | [], _ :: _, _ :: _, _, _ => by unfold blt; simp [Op.bytesLess]
  | x :: a, y :: b, z :: c, h, h' => by
    have ih := @blt_trans a b c
    unfold blt at h h' ih ⊢
    simp only [Op.bytesLess, Bool.or_eq_true, decide_eq_true_eq, Bool.and_eq_true, beq_iff_eq] at h h' ⊢
    rcases h with h | ⟨rfl, h⟩
    · rcases h' with h' | ⟨rfl, h'⟩
      · exact .inl (UInt8.lt_trans h h')
      · exact .inl h
    · rcases h' with h' | ⟨rfl, h'⟩
      · exact .inl h'
      · exact .inr ⟨rfl, ih h h'⟩
theorem blt_total : ∀ {a b : List UInt8}, blt a b = false → blt b a = false → a = b
  | [], [], _, _ => rfl
  | [], _ :: _, h, _ => by unfold blt at h; simp [Op.bytesLess] at h
  | _ :: _, [], _, h => by unfold blt at h; simp [Op.bytesLess] at h
  | x :: a, y :: b, h, h' => by
    have ih := @blt_total a b
    unfold blt at h h' ih
    simp only [Op.bytesLess, Bool.or_eq_false_iff, decide_eq_false_iff_not, Bool.and_eq_false_iff, beq_eq_false_iff_ne] at h h'
    have e : x = y := UInt8.le_antisymm (UInt8.not_lt.1 h'.1) (UInt8.not_lt.1 h.1)
    subst e
    rw [ih (by simpa using h.2) (by simpa using h'.2)]
theorem blt_asymm {a b : List UInt8} (h : blt a b = true) : blt b a = false := by
  cases h' : blt b a
  · rfl
  · have := blt_trans h h'; rw [blt_irrefl] at this; cases this
theorem blt_ne {a b : List UInt8} (h : blt a b = true) : (a == b) = false := by
  rw [beq_eq_false_iff_ne]
  intro e
  subst e
  rw [blt_irrefl] at h
  cases h
theorem cmpS_neg (a b : List UInt8) : decide (cmpS a b < 0) = blt a b := by
  unfold cmpS blt
  induction a generalizing b with
  | nil => cases b <;> simp [Lib.compareBytes, Op.bytesLess]
  | cons x a ih =>
    cases b with
    | nil => simp [Lib.compareBytes, Op.bytesLess]
    | cons y b =>
      simp only [Lib.compareBytes, Op.bytesLess]
      rw [← ih b]
      by_cases h1 : x < y
      · simp [h1]
      · by_cases h2 : y < x
        · have : (x == y) = false := by rw [beq_eq_false_iff_ne]; rintro rfl; exact h1 h2
          simp [h1, h2, this]
        · have e : x = y := UInt8.le_antisymm (UInt8.not_lt.1 h2) (UInt8.not_lt.1 h1)
          subst e
          simp [h1]
theorem cmpS_zero (a b : List UInt8) : (cmpS a b == 0) = (a == b) := by
  unfold cmpS
  induction a generalizing b with
  | nil => cases b <;> simp [Lib.compareBytes]
  | cons x a ih =>
    cases b with
    | nil => simp [Lib.compareBytes]
    | cons y b =>
      simp only [Lib.compareBytes]
      by_cases h1 : x < y
      · have : x ≠ y := by rintro rfl; exact UInt8.lt_irrefl _ h1
        simp [h1, this]
      · by_cases h2 : y < x
        · have : x ≠ y := by rintro rfl; exact h1 h2
          simp [h1, h2, this]
        · have e : x = y := UInt8.le_antisymm (UInt8.not_lt.1 h2) (UInt8.not_lt.1 h1)
          subst e
          have := ih b
          simpa [h1] using this

/-! ### The search by halves -/
def bs (p : Nat → Bool) : Nat → Nat → Nat → Nat
  | 0, i, _ => i
  | n + 1, i, j => bif decide (i < j) then (bif p ((i + j) / 2) then bs p n ((i + j) / 2 + 1) j else bs p n i ((i + j) / 2)) else i
theorem bs_eq {p : Nat → Bool} {r m : Nat} (h1 : ∀ a, a < r → p a = true) (h2 : ∀ a, r ≤ a → a < m → p a = false) : ∀ n i j, i ≤ r → r ≤ j → j ≤ m → j - i ≤ n → bs p n i j = r
  | 0, i, j, a, b, _, d => by unfold bs; omega
  | n + 1, i, j, a, b, c, d => by
    unfold bs
    by_cases h : i < j
    · rw [decide_eq_true h, cond_true]
      cases hp : p ((i + j) / 2)
      · rw [cond_false]
        have : r ≤ (i + j) / 2 := by
          rcases Nat.lt_or_ge ((i + j) / 2) r with h3 | h3
          · rw [h1 _ h3] at hp; cases hp
          · exact h3
        exact bs_eq h1 h2 n i _ a this (by omega) (by omega)
      · rw [cond_true]
        have : (i + j) / 2 < r := by
          rcases Nat.lt_or_ge ((i + j) / 2) r with h3 | h3
          · exact h3
          · rw [h2 _ h3 (by omega)] at hp; cases hp
        exact bs_eq h1 h2 n _ j (by omega) b c (by omega)
    · rw [decide_eq_false h, cond_false]; omega
theorem bs_succ (p : Nat → Bool) (n i j : Nat) : bs p (n + 1) i j = bif decide (i < j) then (bif p ((i + j) / 2) then bs p n ((i + j) / 2 + 1) j else bs p n i ((i + j) / 2)) else i := rfl
theorem bs_more (p : Nat → Bool) : ∀ n i j, j - i ≤ n → bs p (n + 1) i j = bs p n i j
  | 0, i, j, d => by unfold bs bs; rw [decide_eq_false (by omega)]; rfl
  | n + 1, i, j, d => by
    rw [bs_succ p (n + 1) i j, bs_succ p n i j]
    by_cases h : i < j
    · rw [decide_eq_true h, cond_true, cond_true, bs_more p n _ j (by omega), bs_more p n i _ (by omega)]
    · rw [decide_eq_false h, cond_false, cond_false]
theorem bs_step (p : Nat → Bool) (i j : Nat) (h : i < j) : bs p (j - i) i j = bif p ((i + j) / 2) then bs p (j - ((i + j) / 2 + 1)) ((i + j) / 2 + 1) j else bs p ((i + j) / 2 - i) i ((i + j) / 2) := by
  have key : ∀ d n i j, j - i ≤ n → bs p (n + d) i j = bs p n i j := fun d => by
    induction d with
    | zero => intros; rfl
    | succ d ih => intro n i j h; rw [← Nat.add_assoc, bs_more p (n + d) i j (by omega), ih n i j h]
  obtain ⟨m, hm⟩ : ∃ m, j - i = m + 1 := ⟨j - i - 1, by omega⟩
  rw [hm, bs, decide_eq_true h, cond_true]
  have a1 := key (m - (j - ((i + j) / 2 + 1))) (j - ((i + j) / 2 + 1)) ((i + j) / 2 + 1) j (Nat.le_refl _)
  have a2 := key (m - ((i + j) / 2 - i)) ((i + j) / 2 - i) i ((i + j) / 2) (Nat.le_refl _)
  rw [show j - ((i + j) / 2 + 1) + (m - (j - ((i + j) / 2 + 1))) = m from by omega] at a1
  rw [show (i + j) / 2 - i + (m - ((i + j) / 2 - i)) = m from by omega] at a2
  rw [a1, a2]
theorem bs_le (p : Nat → Bool) : ∀ n i j, i ≤ j → bs p n i j ≤ j ∧ i ≤ bs p n i j
  | 0, i, j, h => by unfold bs; omega
  | n + 1, i, j, h => by
    rw [bs]
    by_cases h' : i < j
    · rw [decide_eq_true h', cond_true]
      cases p ((i + j) / 2)
      · rw [cond_false]; have := bs_le p n i ((i + j) / 2) (by omega); omega
      · rw [cond_true]; have := bs_le p n ((i + j) / 2 + 1) j (by omega); omega
    · rw [decide_eq_false h', cond_false]; omega
theorem mid_eq (i j : Nat) (h : i + j ≤ 2000000) : IntKind.i64.wrap ((IntKind.u64.wrap (IntKind.i64.wrap ((i : Int) + (j : Int)))).fdiv ((2 : Int) ^ min (Int.toNat (1 : Int)) IntKind.u64.bits)) = (((i + j) / 2 : Nat) : Int) := by
  rw [wrap_mid ((i : Int) + (j : Int)) (by omega) (by omega)]
  have e : IntKind.u64.wrap ((i : Int) + (j : Int)) = (i : Int) + j := IntWalk.u64_in _ ⟨by omega, by omega⟩
  rw [e, show min (Int.toNat (1 : Int)) IntKind.u64.bits = 1 from rfl, show (2 : Int) ^ 1 = 2 from rfl, Int.fdiv_eq_ediv_of_nonneg _ (by decide), wrap_mid _ (by omega) (by omega)]
  omega
end Go.Ev

/-
  Small functions; Joined, SameTexts.
-/
namespace Go.Proofs.YtghinideddfcpaaDoor
open Go.Ev

noncomputable def G0 : Env := { pure := [] }
theorem g0 : GOK Tryd.prog G0 := GOK.empty
def inR (n a b : Int) : Bool := decide (a ≤ n) && decide (n ≤ b)
theorem inR_spec {n a b : Int} (h : inR n a b = true) : a ≤ n ∧ n ≤ b := by simpa [inR] using h
theorem inR_of {n a b : Int} (h : a ≤ n) (h' : n ≤ b) : inR n a b = true := by simp [inR, h, h']
theorem and_t {a b : Bool} (h : a = true) (h' : b = true) : (a && b) = true := by rw [h, h']; rfl
theorem small_t {n : Nat} (h : n ≤ 9223372036854775807) : small n = true := decide_eq_true h
theorem lenB_t {n : Nat} (h : n ≤ 9223372036854775807) : lenB n = true := decide_eq_true h
theorem wrap_mid (n : Int) (h : -9223372036854775808 ≤ n) (h' : n ≤ 9223372036854775807) : IntKind.i64.wrap n = n := by
  rw [IntKind.wrap_i64]; omega
theorem all_getD {P : AV → Bool} {l : List AV} {i : Nat} (h : l.all P = true) (hi : i < l.length) : P (l.getD i .unk) = true := List.all_eq_true.1 h (l.getD i .unk) (by rw [getD_eq hi]; exact List.getElem_mem hi)
def F20 : List AV → Tr AV
  | [.int .i64 n, .int .i64 a, .int .i64 b] => .leaf (.bool (inR n a b))
  | _ => .no
theorem ok20 : SumOK Tryd.prog 20 (ofT F20) ∧ SNat (ofT F20) := by
  refine fn0 g0 Tryd.func20 (by kernel_rfl) fun ρ avs k r h => ?_
  unfold F20 at h
  split at h
  · rename_i n a b
    have hk := h
    refine Eq.trans (b := bif decide (a ≤ n) then k (.bool (decide (n ≤ b))) else k (.bool false)) (by kernel_rfl) (Eq.trans ?_ hk)
    show _ = k (.bool (decide (a ≤ n) && decide (n ≤ b)))
    cases decide (a ≤ n) <;> rfl
  · cases h
def sE (e : AV) : List UInt8 := (e.cells.headD .unk).toStr
def sL (es : List AV) : List (List UInt8) := es.map sE
def isS (e : AV) : Bool := hasSh .str e
theorem by9 : Tryd.prog.bytesOf 9 ≤ 1000 := of_decide_eq_true (by kernel_rfl)
/-! SameTexts -/
def difS (a b : List AV) (i : Nat) : Bool := !(sE (a.getD i .unk) == sE (b.getD i .unk))
noncomputable def b9 : Code := ((Tryd.f9.body.map loopsOf).getD []).headD .skip
def L9 : List AV → List (Option Row) → Tr LOut
  | [.slv .str a, .slv .str b, .bool r, .int .i64 i], [] =>
    .gd (cnt a.length i a.length && decide (b.length = a.length)) (sT (difS a b) a.length (fun q => .leaf (.ret, [.slv .str a, .slv .str b, .bool false, .int .i64 (q : Nat)], []))
      (.leaf (.exit 0, [.slv .str a, .slv .str b, .bool r, .int .i64 a.length], [])) i.toNat)
  | _, _ => .no
def l9 : Ev.Loop := ⟨{ len := 26, slots := [0, 1, 4, 5] }, ofL L9⟩
def μ9 (vs : List AV) (_ : List (Option Row)) : Nat := match vs with
  | [.slv _ a, _, _, .int _ i] => ((a.length : Int) - i).toNat
  | _ => 0
theorem loop9 : LoopOK Tryd.prog G0 [(4, l9)] b9 l9 := by
  refine loopT g0.natOK rfl (KOK.nil (by kernel_rfl)) μ9 (fun ρ vs rs k r h => ?_)
  unfold L9 at h
  split at h
  · rename_i a b v i
    obtain ⟨hc, hk⟩ := gd_some h
    simp only [Bool.and_eq_true] at hc
    obtain ⟨hc, hl⟩ := hc
    obtain ⟨_, hs, j, rfl, hj⟩ := cnt_spec hc
    rw [Int.toNat_natCast] at hk
    have hl' := of_decide_eq_true hl
    refine Eq.trans (b := bif decide ((↑j : Int) < (↑a.length : Int)) then bif inb (↑j : Int) a.length then bif inb (↑j : Int) b.length then bif !(sE (a.getD j AV.unk)) == (sE (b.getD j AV.unk)) then k Ex.ret [AV.slv Sh.str a, AV.slv Sh.str b, AV.bool false, AV.int IntKind.i64 (↑j : Int)] [] else bif decide (((↑a.length : Int) - IntKind.i64.wrap ((↑j : Int) + (1 : Int))).toNat < ((↑a.length : Int) - (↑j : Int)).toNat) then bif cnt (↑a.length : Int) (IntKind.i64.wrap ((↑j : Int) + (1 : Int))) a.length && decide (b.length = a.length) then bif (findN (difS a b) a.length (IntKind.i64.wrap ((↑j : Int) + (1 : Int))).toNat).isSome then k Ex.ret [AV.slv Sh.str a, AV.slv Sh.str b, AV.bool false, AV.int IntKind.i64 (↑((findN (difS a b) a.length (IntKind.i64.wrap ((↑j : Int) + (1 : Int))).toNat).getD (0 : Nat)) : Int)] [] else k (Ex.exit (0 : Nat)) [AV.slv Sh.str a, AV.slv Sh.str b, AV.bool v, AV.int IntKind.i64 (↑a.length : Int)] [] else none else none else none else none else k (Ex.exit (0 : Nat)) [AV.slv Sh.str a, AV.slv Sh.str b, AV.bool v, AV.int IntKind.i64 (↑j : Int)] []) (by kernel_rfl) ?_
    rw [← hk]
    by_cases hlt : j < a.length
    · obtain ⟨e1, e2, e3, e4, e5⟩ := cnt_facts hlt hs
      have e2' : inb (j : Int) b.length = true := inb_true (by omega) (by omega)
      rw [sT_step _ _ _ _ _ hlt]
      have hb : difS a b j = !(sE (a.getD j .unk) == sE (b.getD j .unk)) := rfl
      rw [hb, e3]
      simp only [Int.toNat_natCast]
      refine Eq.trans (cond_t e1) (Eq.trans (cond_t e2) (Eq.trans (cond_t e2') ?_))
      cases sE (a.getD j .unk) == sE (b.getD j .unk)
      · rfl
      · exact Eq.trans (cond_f rfl) (Eq.trans (cond_t e5) (Eq.trans (cond_t (and_t e4 hl)) rfl))
    · obtain rfl : j = a.length := by omega
      rw [decide_eq_false (by omega), sT_end]
      rfl
  · cases h
def stB (a b : List AV) : Bool := ((a.length : Int) == (b.length : Int)) && !(findN (difS a b) a.length 0).isSome
def F9 : List AV → Tr AV
  | [.slv .str a, .slv .str b] => .gd (small a.length) (.leaf (.bool (stB a b)))
  | _ => .no
theorem ok9 : SumOK Tryd.prog 9 (ofT F9) ∧ SNat (ofT F9) := by
  refine fn1 (K := [(4, l9)]) (b := b9) (l := l9) g0 Tryd.func9 (by kernel_rfl) (by kernel_rfl) loop9 fun ρ avs k r h => ?_
  unfold F9 at h
  split at h
  · rename_i a b
    obtain ⟨hc, hk⟩ := gd_some h
    refine Eq.trans (b := bif (↑a.length : Int) != (↑b.length : Int) then k (AV.bool false) else bif cnt (↑a.length : Int) (0 : Int) a.length && decide (b.length = a.length) then bif (findN (difS a b) a.length (0 : Nat)).isSome then k (AV.bool false) else k (AV.bool true) else none) (by kernel_rfl) ?_
    rw [← hk]
    unfold stB
    cases h1 : (a.length : Int) == (b.length : Int)
    · simp only [bne, h1, Bool.not_false, cond_true]
      rfl
    · have hl : a.length = b.length := by have : (a.length : Int) = (b.length : Int) := by simpa using h1
                                          omega
      simp only [bne, h1, Bool.not_true, cond_false]
      refine Eq.trans (cond_t (and_t (cnt_zero hc) (decide_eq_true hl.symm))) ?_
      cases (findN (difS a b) a.length 0).isSome <;> rfl
  · cases h
end Go.Proofs.YtghinideddfcpaaDoor

/-
  Different texts in increasing order: Different.
-/
namespace Go.Proofs.YtghinideddfcpaaDoor
open Go.Ev

noncomputable def b10 : Code := ((Tryd.f10.body.map loopsOf).getD []).headD .skip
noncomputable def c10 : Code := (((Tryd.f10.body.map loopsOf).getD []).tail).headD .skip
/-- One element of the list so far: what it gives, whether the new one lies in. -/
def stD (x e : List UInt8) (d : Bool) : List AV := (bif !d && !blt e x then [.str x] else []) ++ (bif !(e == x) then [.str e] else [])
def goD (x : List UInt8) : List AV → Bool → List AV × Bool
  | [], d => ([], d)
  | e :: r, d => (stD x (sE e) d ++ (goD x r (d || !blt (sE e) x)).1, (goD x r (d || !blt (sE e) x)).2)
theorem goD_cons (x : List UInt8) (e : AV) (r : List AV) (d : Bool) : goD x (e :: r) d = (stD x (sE e) d ++ (goD x r (d || !blt (sE e) x)).1, (goD x r (d || !blt (sE e) x)).2) := rfl
theorem goD_true (x : List UInt8) : ∀ r : List AV, (goD x r true).2 = true
  | [] => rfl
  | e :: r => goD_true x r
theorem stD_len (x e : List UInt8) (d : Bool) : (stD x e d).length ≤ 1 + (if d = false ∧ (d || !blt e x) = true then 1 else 0) := by
  unfold stD
  cases d <;> cases blt e x <;> cases e == x <;> simp
theorem goD_len (x : List UInt8) : ∀ (out : List AV) (d : Bool), (goD x out d).1.length ≤ out.length + (if d = false ∧ (goD x out d).2 = true then 1 else 0)
  | [], d => by show 0 ≤ _; omega
  | e :: r, d => by
    rw [goD_cons]
    have h1 := stD_len x (sE e) d
    have h2 := goD_len x r (d || !blt (sE e) x)
    simp only [List.length_append, List.length_cons]
    cases d
    · cases hb : blt (sE e) x
      · rw [hb] at h1 h2
        simp only [Bool.not_false, Bool.or_true, Bool.false_or, and_self, if_true, Bool.true_eq_false, false_and, if_false, true_and] at h1 h2 ⊢
        have : (goD x r true).2 = true := goD_true x r
        rw [this]
        simp only [if_true]
        omega
      · rw [hb] at h1 h2
        simp only [Bool.not_true, Bool.or_false, Bool.false_eq_true, and_false, if_false, true_and] at h1 h2 ⊢
        omega
    · simp only [Bool.true_or, Bool.true_eq_false, false_and, if_false] at h1 h2 ⊢
      omega
def M10 : List AV → List (Option Row) → Tr LOut
  | [.slv .str es, .slz .str, .own 1900, .int .i64 i, .own 1901, .bool d, .int .i64 q], [some (.arr false .str e out none), some (.arr false .str e2 nx none)] =>
    .gd (cnt out.length q out.length && (inb i es.length && decide (nx.length + 2 * (out.length - q.toNat) ≤ 1000000 ∧ e = 9 ∧ e2 = 9))) (.leaf (.exit 2, [.slv .str es, .slz .str, .own 1900, .int .i64 i, .own 1901, .bool (goD (sE (es.getD i.toNat .unk)) (out.drop q.toNat) d).2, .int .i64 out.length], [some (.arr false .str e out none), some (.arr false .str e2 (nx ++ (goD (sE (es.getD i.toNat .unk)) (out.drop q.toNat) d).1) none)]))
  | _, _ => .no
def m10 : Ev.Loop := ⟨{ len := 72, slots := [0, 2, 3, 4, 5, 6, 7], rows := [1900, 1901], homes := [(3, 1900, 9), (5, 1901, 9)] }, ofL M10⟩
def inD (x : List UInt8) (out : List AV) : List AV := bif (goD x out false).2 then (goD x out false).1 else (goD x out false).1 ++ [.str x]
def allD (out : List AV) : List AV → List AV
  | [] => out
  | e :: r => allD (inD (sE e) out) r
def L10 : List AV → List (Option Row) → Tr LOut
  | [.slv .str es, .slz .str, .own 1900, .int .i64 i], [some (.arr false .str e out none)] =>
    .gd (cnt es.length i es.length && decide (out.length + (es.length - i.toNat) ≤ 100000 ∧ e = 9)) (.leaf (.exit 0, [.slv .str es, .slz .str, .own 1900, .int .i64 es.length], [some (.arr false .str e (allD out (es.drop i.toNat)) none)]))
  | _, _ => .no
def l10 : Ev.Loop := ⟨{ len := 72, slots := [0, 2, 3, 4], rows := [1900], homes := [(3, 1902, 9), (DROP, 1900, 0), (3, 1900, 9)] }, ofL L10⟩
def μ10m (vs : List AV) (rs : List (Option Row)) : Nat := match vs, rs with
  | [_, _, _, _, _, _, .int _ i], some (.arr _ _ _ out _) :: _ => ((out.length : Int) - i).toNat
  | _, _ => 0
def μ10 (vs : List AV) (_ : List (Option Row)) : Nat := match vs with
  | [.slv _ es, _, _, .int _ i] => ((es.length : Int) - i).toNat
  | _ => 0
theorem allD_cons (out : List AV) (e : AV) (r : List AV) : allD out (e :: r) = allD (inD (sE e) out) r := rfl
theorem loop10m : LoopOK Tryd.prog G0 [(3, l10), (8, m10)] c10 m10 := by
  refine loopT g0.natOK rfl (KOK.nil (by kernel_rfl)) μ10m (fun ρ vs rs k r h => ?_)
  unfold M10 at h
  split at h
  · rename_i es i d q e out e2 nx
    obtain ⟨hc, hk⟩ := gd_some h
    simp only [Bool.and_eq_true] at hc
    obtain ⟨hc, hi, hb⟩ := hc
    obtain ⟨hb, rfl, rfl⟩ := of_decide_eq_true hb
    refine Eq.trans (b := bif decide (q < (↑out.length : Int)) then bif !d then bif inb q out.length then bif decide (q.toNat < out.length) then bif inb i es.length then bif !Op.bytesLess (sE (out.getD q.toNat AV.unk)) (sE (es.getD i.toNat AV.unk)) then bif inb i es.length then bif roomB (nx.length + [AV.str (sE (es.getD i.toNat AV.unk))].length) (Tryd.prog.bytesOf (9 : Nat)) then bif inb q out.length then bif decide (q.toNat < out.length) then bif inb i es.length then bif !(sE (out.getD q.toNat AV.unk)) == (sE (es.getD i.toNat AV.unk)) then bif inb q out.length then bif decide (q.toNat < out.length) then bif roomB ((nx ++ [AV.str (sE (es.getD i.toNat AV.unk))]).length + [AV.str (sE (out.getD q.toNat AV.unk))].length) (Tryd.prog.bytesOf (9 : Nat)) then bif decide (((↑out.length : Int) - IntKind.i64.wrap (q + (1 : Int))).toNat < ((↑out.length : Int) - q).toNat) then bif cnt (↑out.length : Int) (IntKind.i64.wrap (q + (1 : Int))) out.length && (inb i es.length && decide ((nx ++ [AV.str (sE (es.getD i.toNat AV.unk))] ++ [AV.str (sE (out.getD q.toNat AV.unk))]).length + (2 : Nat) * (out.length - (IntKind.i64.wrap (q + (1 : Int))).toNat) ≤ (1000000 : Nat) ∧ (9 : TypeId) = (9 : TypeId) ∧ (9 : Nat) = (9 : TypeId))) then k (Ex.exit (2 : Nat)) [AV.slv Sh.str es, AV.slz Sh.str, AV.own (1900 : Nat), AV.int IntKind.i64 i, AV.own (1901 : Nat), AV.bool (goD (sE (es.getD i.toNat AV.unk)) (List.drop (IntKind.i64.wrap (q + (1 : Int))).toNat out) true).snd, AV.int IntKind.i64 (↑out.length : Int)] [some (Row.arr false Sh.str (9 : Nat) out none), some (Row.arr false Sh.str (9 : Nat) (nx ++ [AV.str (sE (es.getD i.toNat AV.unk))] ++ [AV.str (sE (out.getD q.toNat AV.unk))] ++ (goD (sE (es.getD i.toNat AV.unk)) (List.drop (IntKind.i64.wrap (q + (1 : Int))).toNat out) true).fst) none)] else none else none else none else none else none else bif decide (((↑out.length : Int) - IntKind.i64.wrap (q + (1 : Int))).toNat < ((↑out.length : Int) - q).toNat) then bif cnt (↑out.length : Int) (IntKind.i64.wrap (q + (1 : Int))) out.length && (inb i es.length && decide ((nx ++ [AV.str (sE (es.getD i.toNat AV.unk))]).length + (2 : Nat) * (out.length - (IntKind.i64.wrap (q + (1 : Int))).toNat) ≤ (1000000 : Nat) ∧ (9 : TypeId) = (9 : TypeId) ∧ (9 : Nat) = (9 : TypeId))) then k (Ex.exit (2 : Nat)) [AV.slv Sh.str es, AV.slz Sh.str, AV.own (1900 : Nat), AV.int IntKind.i64 i, AV.own (1901 : Nat), AV.bool (goD (sE (es.getD i.toNat AV.unk)) (List.drop (IntKind.i64.wrap (q + (1 : Int))).toNat out) true).snd, AV.int IntKind.i64 (↑out.length : Int)] [some (Row.arr false Sh.str (9 : Nat) out none), some (Row.arr false Sh.str (9 : Nat) (nx ++ [AV.str (sE (es.getD i.toNat AV.unk))] ++ (goD (sE (es.getD i.toNat AV.unk)) (List.drop (IntKind.i64.wrap (q + (1 : Int))).toNat out) true).fst) none)] else none else none else none else none else none else none else none else bif inb q out.length then bif decide (q.toNat < out.length) then bif inb i es.length then bif !(sE (out.getD q.toNat AV.unk)) == (sE (es.getD i.toNat AV.unk)) then bif inb q out.length then bif decide (q.toNat < out.length) then bif roomB (nx.length + [AV.str (sE (out.getD q.toNat AV.unk))].length) (Tryd.prog.bytesOf (9 : Nat)) then bif decide (((↑out.length : Int) - IntKind.i64.wrap (q + (1 : Int))).toNat < ((↑out.length : Int) - q).toNat) then bif cnt (↑out.length : Int) (IntKind.i64.wrap (q + (1 : Int))) out.length && (inb i es.length && decide ((nx ++ [AV.str (sE (out.getD q.toNat AV.unk))]).length + (2 : Nat) * (out.length - (IntKind.i64.wrap (q + (1 : Int))).toNat) ≤ (1000000 : Nat) ∧ (9 : TypeId) = (9 : TypeId) ∧ (9 : Nat) = (9 : TypeId))) then k (Ex.exit (2 : Nat)) [AV.slv Sh.str es, AV.slz Sh.str, AV.own (1900 : Nat), AV.int IntKind.i64 i, AV.own (1901 : Nat), AV.bool (goD (sE (es.getD i.toNat AV.unk)) (List.drop (IntKind.i64.wrap (q + (1 : Int))).toNat out) d).snd, AV.int IntKind.i64 (↑out.length : Int)] [some (Row.arr false Sh.str (9 : Nat) out none), some (Row.arr false Sh.str (9 : Nat) (nx ++ [AV.str (sE (out.getD q.toNat AV.unk))] ++ (goD (sE (es.getD i.toNat AV.unk)) (List.drop (IntKind.i64.wrap (q + (1 : Int))).toNat out) d).fst) none)] else none else none else none else none else none else bif decide (((↑out.length : Int) - IntKind.i64.wrap (q + (1 : Int))).toNat < ((↑out.length : Int) - q).toNat) then bif cnt (↑out.length : Int) (IntKind.i64.wrap (q + (1 : Int))) out.length && (inb i es.length && decide (nx.length + (2 : Nat) * (out.length - (IntKind.i64.wrap (q + (1 : Int))).toNat) ≤ (1000000 : Nat) ∧ (9 : TypeId) = (9 : TypeId) ∧ (9 : TypeId) = (9 : TypeId))) then k (Ex.exit (2 : Nat)) [AV.slv Sh.str es, AV.slz Sh.str, AV.own (1900 : Nat), AV.int IntKind.i64 i, AV.own (1901 : Nat), AV.bool (goD (sE (es.getD i.toNat AV.unk)) (List.drop (IntKind.i64.wrap (q + (1 : Int))).toNat out) d).snd, AV.int IntKind.i64 (↑out.length : Int)] [some (Row.arr false Sh.str (9 : Nat) out none), some (Row.arr false Sh.str (9 : Nat) (nx ++ (goD (sE (es.getD i.toNat AV.unk)) (List.drop (IntKind.i64.wrap (q + (1 : Int))).toNat out) d).fst) none)] else none else none else none else none else none else none else none else none else bif inb q out.length then bif decide (q.toNat < out.length) then bif inb i es.length then bif !(sE (out.getD q.toNat AV.unk)) == (sE (es.getD i.toNat AV.unk)) then bif inb q out.length then bif decide (q.toNat < out.length) then bif roomB (nx.length + [AV.str (sE (out.getD q.toNat AV.unk))].length) (Tryd.prog.bytesOf (9 : Nat)) then bif decide (((↑out.length : Int) - IntKind.i64.wrap (q + (1 : Int))).toNat < ((↑out.length : Int) - q).toNat) then bif cnt (↑out.length : Int) (IntKind.i64.wrap (q + (1 : Int))) out.length && (inb i es.length && decide ((nx ++ [AV.str (sE (out.getD q.toNat AV.unk))]).length + (2 : Nat) * (out.length - (IntKind.i64.wrap (q + (1 : Int))).toNat) ≤ (1000000 : Nat) ∧ (9 : TypeId) = (9 : TypeId) ∧ (9 : Nat) = (9 : TypeId))) then k (Ex.exit (2 : Nat)) [AV.slv Sh.str es, AV.slz Sh.str, AV.own (1900 : Nat), AV.int IntKind.i64 i, AV.own (1901 : Nat), AV.bool (goD (sE (es.getD i.toNat AV.unk)) (List.drop (IntKind.i64.wrap (q + (1 : Int))).toNat out) d).snd, AV.int IntKind.i64 (↑out.length : Int)] [some (Row.arr false Sh.str (9 : Nat) out none), some (Row.arr false Sh.str (9 : Nat) (nx ++ [AV.str (sE (out.getD q.toNat AV.unk))] ++ (goD (sE (es.getD i.toNat AV.unk)) (List.drop (IntKind.i64.wrap (q + (1 : Int))).toNat out) d).fst) none)] else none else none else none else none else none else bif decide (((↑out.length : Int) - IntKind.i64.wrap (q + (1 : Int))).toNat < ((↑out.length : Int) - q).toNat) then bif cnt (↑out.length : Int) (IntKind.i64.wrap (q + (1 : Int))) out.length && (inb i es.length && decide (nx.length + (2 : Nat) * (out.length - (IntKind.i64.wrap (q + (1 : Int))).toNat) ≤ (1000000 : Nat) ∧ (9 : TypeId) = (9 : TypeId) ∧ (9 : TypeId) = (9 : TypeId))) then k (Ex.exit (2 : Nat)) [AV.slv Sh.str es, AV.slz Sh.str, AV.own (1900 : Nat), AV.int IntKind.i64 i, AV.own (1901 : Nat), AV.bool (goD (sE (es.getD i.toNat AV.unk)) (List.drop (IntKind.i64.wrap (q + (1 : Int))).toNat out) d).snd, AV.int IntKind.i64 (↑out.length : Int)] [some (Row.arr false Sh.str (9 : Nat) out none), some (Row.arr false Sh.str (9 : Nat) (nx ++ (goD (sE (es.getD i.toNat AV.unk)) (List.drop (IntKind.i64.wrap (q + (1 : Int))).toNat out) d).fst) none)] else none else none else none else none else none else k (Ex.exit (2 : Nat)) [AV.slv Sh.str es, AV.slz Sh.str, AV.own (1900 : Nat), AV.int IntKind.i64 i, AV.own (1901 : Nat), AV.bool d, AV.int IntKind.i64 q] [some (Row.arr false Sh.str (9 : Nat) out none), some (Row.arr false Sh.str (9 : Nat) nx none)]) (by kernel_rfl) ?_
    rw [← hk]
    obtain ⟨_, hs, j, rfl, hj⟩ := cnt_spec hc
    rw [Int.toNat_natCast] at hb
    simp only [Int.toNat_natCast]
    generalize sE (es.getD i.toNat .unk) = x
    by_cases hlt : j < out.length
    · obtain ⟨e1, e2, e3, e4, e5⟩ := cnt_facts hlt hs
      have e6 : decide (j < out.length) = true := decide_eq_true hlt
      have hc2 : ∀ a b : List UInt8, Op.bytesLess a b = blt a b := fun _ _ => rfl
      have r1 : ∀ y : AV, roomB (nx.length + [y].length) (Tryd.prog.bytesOf 9) = true := fun y => roomB_small (by show _ + 1 ≤ _; omega) by9
      have r2 : ∀ y z : AV, roomB ((nx ++ [y]).length + [z].length) (Tryd.prog.bytesOf 9) = true := fun y z => roomB_small (by rw [List.length_append]; show _ + 1 + 1 ≤ _; omega) by9
      have g0' : decide (nx.length + 2 * (out.length - (j + 1)) ≤ 1000000 ∧ True ∧ True) = true := decide_eq_true ⟨by omega, trivial, trivial⟩
      have g1 : ∀ y : AV, decide ((nx ++ [y]).length + 2 * (out.length - (j + 1)) ≤ 1000000 ∧ True ∧ True) = true := fun y => decide_eq_true ⟨by rw [List.length_append, List.length_singleton]; omega, trivial, trivial⟩
      have g2 : ∀ y z : AV, decide ((nx ++ [y] ++ [z]).length + 2 * (out.length - (j + 1)) ≤ 1000000 ∧ True ∧ True) = true := fun y z => decide_eq_true ⟨by rw [List.length_append, List.length_append, List.length_singleton, List.length_singleton]; omega, trivial, trivial⟩
      rw [drop_getD hlt, goD_cons]
      unfold stD
      rw [e3]
      simp only [Int.toNat_natCast, hc2]
      generalize sE (out.getD j .unk) = y
      refine Eq.trans (cond_t e1) ?_
      cases d
      · refine Eq.trans (cond_t rfl) (Eq.trans (cond_t e2) (Eq.trans (cond_t e6) (Eq.trans (cond_t hi) ?_)))
        cases hbl : blt y x
        · refine Eq.trans (cond_t rfl) (Eq.trans (cond_t hi) (Eq.trans (cond_t (r1 _)) (Eq.trans (cond_t e2) (Eq.trans (cond_t e6) (Eq.trans (cond_t hi) ?_)))))
          cases hxy : y == x
          · refine Eq.trans (cond_t rfl) (Eq.trans (cond_t e2) (Eq.trans (cond_t e6) (Eq.trans (cond_t (r2 _ _)) (Eq.trans (cond_t e5) (Eq.trans (cond_t (and_t e4 (and_t hi (g2 _ _)))) ?_)))))
            simp only [List.append_assoc]
            rfl
          · refine Eq.trans (cond_f rfl) (Eq.trans (cond_t e5) (Eq.trans (cond_t (and_t e4 (and_t hi (g1 _)))) ?_))
            simp only [List.append_assoc]
            rfl
        · refine Eq.trans (cond_f rfl) (Eq.trans (cond_t e2) (Eq.trans (cond_t e6) (Eq.trans (cond_t hi) ?_)))
          cases hxy : y == x
          · refine Eq.trans (cond_t rfl) (Eq.trans (cond_t e2) (Eq.trans (cond_t e6) (Eq.trans (cond_t (r1 _)) (Eq.trans (cond_t e5) (Eq.trans (cond_t (and_t e4 (and_t hi (g1 _)))) ?_)))))
            simp only [List.append_assoc]
            rfl
          · exact Eq.trans (cond_f rfl) (Eq.trans (cond_t e5) (Eq.trans (cond_t (and_t e4 (and_t hi g0'))) rfl))
      · refine Eq.trans (cond_f rfl) (Eq.trans (cond_t e2) (Eq.trans (cond_t e6) (Eq.trans (cond_t hi) ?_)))
        cases hxy : y == x
        · refine Eq.trans (cond_t rfl) (Eq.trans (cond_t e2) (Eq.trans (cond_t e6) (Eq.trans (cond_t (r1 _)) (Eq.trans (cond_t e5) (Eq.trans (cond_t (and_t e4 (and_t hi (g1 _)))) ?_)))))
          simp only [List.append_assoc]
          rfl
        · exact Eq.trans (cond_f rfl) (Eq.trans (cond_t e5) (Eq.trans (cond_t (and_t e4 (and_t hi g0'))) rfl))
    · obtain rfl : j = out.length := by omega
      rw [decide_eq_false (by omega), List.drop_length]
      show k _ _ [_, some (.arr false .str 9 nx none)] = k _ _ [_, some (.arr false .str 9 (nx ++ []) none)]
      rw [List.append_nil]
      rfl
  · cases h
theorem loop10 : LoopOK Tryd.prog G0 [(3, l10), (8, m10)] b10 l10 := by
  refine loopT g0.natOK rfl (KOK.one (by kernel_rfl) (by kernel_rfl) loop10m) μ10 (fun ρ vs rs k r h => ?_)
  unfold L10 at h
  split at h
  · rename_i es i e out
    obtain ⟨hc, hk⟩ := gd_some h
    simp only [Bool.and_eq_true] at hc
    obtain ⟨hc, hb⟩ := hc
    obtain ⟨hb, rfl⟩ := of_decide_eq_true hb
    refine Eq.trans (b := bif decide (i < (↑es.length : Int)) then bif cnt (↑out.length : Int) (0 : Int) out.length && (inb i es.length && decide (([] : List AV).length + (2 : Nat) * (out.length - Int.toNat (0 : Int)) ≤ (1000000 : Nat) ∧ (9 : TypeId) = (9 : TypeId) ∧ ((5 : Nat), (1901 : Nat), (9 : TypeId)).snd.snd = (9 : TypeId))) then bif !(goD (sE (es.getD i.toNat AV.unk)) (List.drop (0 : Nat) out) false).snd then bif inb i es.length then bif roomB (([] ++ (goD (sE (es.getD i.toNat AV.unk)) (List.drop (0 : Nat) out) false).fst).length + [AV.str (sE (es.getD i.toNat AV.unk))].length) (Tryd.prog.bytesOf (9 : Nat)) then bif decide (((↑es.length : Int) - IntKind.i64.wrap (i + (1 : Int))).toNat < ((↑es.length : Int) - i).toNat) then bif cnt (↑es.length : Int) (IntKind.i64.wrap (i + (1 : Int))) es.length && decide (([] ++ (goD (sE (es.getD i.toNat AV.unk)) (List.drop (0 : Nat) out) false).fst ++ [AV.str (sE (es.getD i.toNat AV.unk))]).length + (es.length - (IntKind.i64.wrap (i + (1 : Int))).toNat) ≤ (100000 : Nat) ∧ (9 : Nat) = (9 : TypeId)) then k (Ex.exit (0 : Nat)) [AV.slv Sh.str es, AV.slz Sh.str, AV.own (1900 : Nat), AV.int IntKind.i64 (↑es.length : Int)] [some (Row.arr false Sh.str (9 : Nat) (allD ([] ++ (goD (sE (es.getD i.toNat AV.unk)) (List.drop (0 : Nat) out) false).fst ++ [AV.str (sE (es.getD i.toNat AV.unk))]) (List.drop (IntKind.i64.wrap (i + (1 : Int))).toNat es)) none)] else none else none else none else none else bif decide (((↑es.length : Int) - IntKind.i64.wrap (i + (1 : Int))).toNat < ((↑es.length : Int) - i).toNat) then bif cnt (↑es.length : Int) (IntKind.i64.wrap (i + (1 : Int))) es.length && decide (([] ++ (goD (sE (es.getD i.toNat AV.unk)) (List.drop (0 : Nat) out) false).fst).length + (es.length - (IntKind.i64.wrap (i + (1 : Int))).toNat) ≤ (100000 : Nat) ∧ ((5 : Nat), (1901 : Nat), (9 : TypeId)).snd.snd = (9 : TypeId)) then k (Ex.exit (0 : Nat)) [AV.slv Sh.str es, AV.slz Sh.str, AV.own (1900 : Nat), AV.int IntKind.i64 (↑es.length : Int)] [some (Row.arr false Sh.str (9 : Nat) (allD ([] ++ (goD (sE (es.getD i.toNat AV.unk)) (List.drop (0 : Nat) out) false).fst) (List.drop (IntKind.i64.wrap (i + (1 : Int))).toNat es)) none)] else none else none else none else k (Ex.exit (0 : Nat)) [AV.slv Sh.str es, AV.slz Sh.str, AV.own (1900 : Nat), AV.int IntKind.i64 i] [some (Row.arr false Sh.str (9 : Nat) out none)]) (by kernel_rfl) ?_
    rw [← hk]
    obtain ⟨_, hs, j, rfl, hj⟩ := cnt_spec hc
    rw [Int.toNat_natCast] at hb
    simp only [Int.toNat_natCast]
    by_cases hlt : j < es.length
    · obtain ⟨e1, e2, e3, e4, e5⟩ := cnt_facts hlt hs
      rw [drop_getD hlt, allD_cons, e3]
      simp only [Int.toNat_natCast]
      unfold inD
      have hX : List.drop 0 out = out := rfl
      rw [hX]
      have hn : ∀ l : List AV, [] ++ l = l := fun l => rfl
      rw [hn]
      have hgl := goD_len (sE (es.getD j .unk)) out false
      refine Eq.trans (cond_t e1) (Eq.trans (cond_t (and_t (cnt_zero (small_t (by omega))) (and_t e2 (decide_eq_true ⟨by show 0 + 2 * (out.length - 0) ≤ _; omega, by first | trivial | rfl, by first | trivial | rfl⟩)))) ?_)
      generalize sE (es.getD j .unk) = x at hgl ⊢
      cases hd : (goD x out false).2
      · have hgl : (goD x out false).1.length ≤ out.length := by simpa [hd] using hgl
        refine Eq.trans (cond_t rfl) (Eq.trans (cond_t e2) (Eq.trans (cond_t (roomB_small (by show _ + 1 ≤ _; omega) by9)) (Eq.trans (cond_t e5) (Eq.trans (cond_t (and_t e4 (decide_eq_true ⟨by rw [List.length_append, List.length_singleton]; omega, by first | trivial | rfl⟩))) rfl))))
      · have hgl : (goD x out false).1.length ≤ out.length + 1 := by simpa [hd] using hgl
        refine Eq.trans (cond_f rfl) (Eq.trans (cond_t e5) (Eq.trans (cond_t (and_t e4 (decide_eq_true ⟨by omega, by first | trivial | rfl⟩))) rfl))
    · obtain rfl : j = es.length := by omega
      rw [decide_eq_false (by omega), List.drop_length]
      rfl
  · cases h
def F10 : List AV → Tr AV
  | [.slv .str es] => .gd (decide (es.length ≤ 100000)) (.leaf (.slv .str ((allD [] es).take 1000)))
  | _ => .no
theorem ok10 : SumOK Tryd.prog 10 (ofT F10) ∧ SNat (ofT F10) := by
  refine fnT (K := [(3, l10), (8, m10)]) (bs := [b10, c10]) g0 Tryd.func10 (by kernel_rfl) (fun b hb => ?_) fun ρ avs k r h => ?_
  · simp only [List.mem_cons, List.mem_nil_iff, or_false] at hb
    rcases hb with rfl | rfl
    · exact ⟨l10, by kernel_rfl, loop10⟩
    · exact ⟨m10, by kernel_rfl, loop10m⟩
  unfold F10 at h
  split at h
  · rename_i es
    obtain ⟨hc, hk⟩ := gd_some h
    have hl := of_decide_eq_true hc
    refine Eq.trans (b := bif cnt (↑es.length : Int) (0 : Int) es.length && decide (([] : List AV).length + (es.length - Int.toNat (0 : Int)) ≤ (100000 : Nat) ∧ ((3 : Nat), (1902 : Nat), (9 : TypeId)).snd.snd = (9 : TypeId)) then bif decide ((↑(allD [] (List.drop (0 : Nat) es)).length : Int) > (1000 : Int)) then bif slb (0 : Int) (1000 : Int) (allD [] (List.drop (0 : Nat) es)).length then bif decide (Int.toNat (0 : Int) + (Int.toNat (1000 : Int) - Int.toNat (0 : Int)) ≤ (allD [] (List.drop (0 : Nat) es)).length) then k (AV.slv Sh.str (List.take (Int.toNat (1000 : Int) - Int.toNat (0 : Int)) (List.drop (0 : Nat) (allD [] (List.drop (0 : Nat) es))))) else none else none else k (AV.slv Sh.str (allD [] (List.drop (0 : Nat) es))) else none) (by kernel_rfl) ?_
    rw [← hk]
    have hX : List.drop 0 es = es := rfl
    rw [hX]
    refine Eq.trans (cond_t (and_t (cnt_zero (small_t (by omega))) (decide_eq_true ⟨by show 0 + (es.length - 0) ≤ _; omega, rfl⟩))) ?_
    have e1 : (1000 : Int).toNat = 1000 := rfl
    have e0 : (0 : Int).toNat = 0 := rfl
    by_cases h0 : (allD [] es).length > 1000
    · refine Eq.trans (cond_t (decide_eq_true (by omega))) (Eq.trans (cond_t (slb_true (by omega) (by omega) (by omega))) (Eq.trans (cond_t (decide_eq_true (by show 0 + (1000 - 0) ≤ _; omega))) rfl))
    · refine Eq.trans (cond_f (decide_eq_false (by omega))) ?_
      rw [show (allD [] es).take 1000 = allD [] es from List.take_of_length_le (by omega)]
      rfl
  · cases h
end Go.Proofs.YtghinideddfcpaaDoor

/-
  The library's functions, laid by the kit's tool at this program.
-/
namespace Go.Proofs
open Go.Shelf
def Tryd.lays195_ren : Go.Shelf.Ren := ⟨fun | 195 => 30 | n => n, fun | 9 => 9 | 3 => 3 | 0 => 0 | 4 => 4 | n => n, fun | n => n⟩
theorem Tryd.lays195 : Go.Proofs.Lays.n195 Tryd.prog Tryd.lays195_ren := {
  mixed := by kernel_rfl
  f195 := Tryd.func30.trans (congrArg some (by kernel_rfl))
  t0 := Tryd.underlying0
  a0 := Tryd.isAgg0
  z0 := Tryd.sizeOf0
  v0 := Tryd.zeroValue0
  t3 := Tryd.underlying3
  a3 := Tryd.isAgg3
  z3 := Tryd.sizeOf3
  v3 := Tryd.zeroValue3
  t4 := Tryd.underlying4
  a4 := Tryd.isAgg4
  z4 := Tryd.sizeOf4
  v4 := Tryd.zeroValue4
  t9 := Tryd.underlying9
  a9 := Tryd.isAgg9
  z9 := Tryd.sizeOf9
  v9 := Tryd.zeroValue9 }
open Go.RowKit in
theorem Tryd.utf8_RuneCountInString (s : ByteArray) (w : World) (hs : s.size < 9223372036854775807) :
    Calls Tryd.prog 30 #[.string s] w fun e w' => e = .returned (.int .i64 (Lib.runeCount s)) ∧ ∃ pos, w' = w.iter s pos := Any.utf8_RuneCountInString Tryd.lays195 s w hs
def Tryd.lays190_ren : Go.Shelf.Ren := ⟨fun | 190 => 21 | 125 => 34 | 258 => 33 | 128 => 54 | 129 => 55 | 302 => 45 | 303 => 46 | 304 => 47 | 305 => 48 | 306 => 49 | 307 => 50 | 308 => 51 | 309 => 52 | 310 => 53 | 333 => 64 | 329 => 65 | 330 => 66 | 334 => 67 | 335 => 68 | 336 => 69 | 344 => 73 | n => n, fun | 31 => 22 | 9 => 9 | 3 => 3 | 46 => 51 | 0 => 0 | 51 => 52 | 53 => 88 | 4 => 4 | 183 => 80 | 182 => 79 | 131 => 84 | 5 => 5 | 218 => 105 | 222 => 109 | 228 => 123 | 229 => 124 | n => n, fun | n => n⟩
theorem Tryd.lays190 : Go.Proofs.Lays.n190 Tryd.prog Tryd.lays190_ren := {
  mixed := by kernel_rfl
  f125 := Tryd.func34.trans (congrArg some (by kernel_rfl))
  f128 := Tryd.func54.trans (congrArg some (by kernel_rfl))
  f129 := Tryd.func55.trans (congrArg some (by kernel_rfl))
  f190 := Tryd.func21.trans (congrArg some (by kernel_rfl))
  f258 := Tryd.func33.trans (congrArg some (by kernel_rfl))
  f302 := Tryd.func45.trans (congrArg some (by kernel_rfl))
  f303 := Tryd.func46.trans (congrArg some (by kernel_rfl))
  f304 := Tryd.func47.trans (congrArg some (by kernel_rfl))
  f305 := Tryd.func48.trans (congrArg some (by kernel_rfl))
  f306 := Tryd.func49.trans (congrArg some (by kernel_rfl))
  f307 := Tryd.func50.trans (congrArg some (by kernel_rfl))
  f308 := Tryd.func51.trans (congrArg some (by kernel_rfl))
  f309 := Tryd.func52.trans (congrArg some (by kernel_rfl))
  f310 := Tryd.func53.trans (congrArg some (by kernel_rfl))
  f329 := Tryd.func65.trans (congrArg some (by kernel_rfl))
  f330 := Tryd.func66.trans (congrArg some (by kernel_rfl))
  f333 := Tryd.func64.trans (congrArg some (by kernel_rfl))
  f334 := Tryd.func67.trans (congrArg some (by kernel_rfl))
  f335 := Tryd.func68.trans (congrArg some (by kernel_rfl))
  f336 := Tryd.func69.trans (congrArg some (by kernel_rfl))
  f344 := Tryd.func73.trans (congrArg some (by kernel_rfl))
  t0 := Tryd.underlying0
  a0 := Tryd.isAgg0
  z0 := Tryd.sizeOf0
  v0 := Tryd.zeroValue0
  t3 := Tryd.underlying3
  a3 := Tryd.isAgg3
  z3 := Tryd.sizeOf3
  v3 := Tryd.zeroValue3
  t4 := Tryd.underlying4
  a4 := Tryd.isAgg4
  z4 := Tryd.sizeOf4
  v4 := Tryd.zeroValue4
  t5 := Tryd.underlying5
  a5 := Tryd.isAgg5
  z5 := Tryd.sizeOf5
  v5 := Tryd.zeroValue5
  t9 := Tryd.underlying9
  a9 := Tryd.isAgg9
  z9 := Tryd.sizeOf9
  v9 := Tryd.zeroValue9
  t31 := Tryd.underlying22
  a31 := Tryd.isAgg22
  z31 := Tryd.sizeOf22
  v31 := Tryd.zeroValue22
  t46 := Tryd.underlying51
  a46 := Tryd.isAgg51
  z46 := Tryd.sizeOf51
  v46 := Tryd.zeroValue51
  t51 := Tryd.underlying52
  a51 := Tryd.isAgg52
  z51 := Tryd.sizeOf52
  v51 := Tryd.zeroValue52
  t53 := Tryd.underlying88
  a53 := Tryd.isAgg88
  z53 := Tryd.sizeOf88
  v53 := Tryd.zeroValue88
  t131 := Tryd.underlying84
  a131 := Tryd.isAgg84
  z131 := Tryd.sizeOf84
  v131 := Tryd.zeroValue84
  t182 := Tryd.underlying79
  a182 := Tryd.isAgg79
  z182 := Tryd.sizeOf79
  v182 := Tryd.zeroValue79
  t183 := Tryd.underlying80
  a183 := Tryd.isAgg80
  z183 := Tryd.sizeOf80
  v183 := Tryd.zeroValue80
  t218 := Tryd.underlying105
  a218 := Tryd.isAgg105
  z218 := Tryd.sizeOf105
  v218 := Tryd.zeroValue105
  t222 := Tryd.underlying109
  a222 := Tryd.isAgg109
  z222 := Tryd.sizeOf109
  v222 := Tryd.zeroValue109
  t228 := Tryd.underlying123
  a228 := Tryd.isAgg123
  z228 := Tryd.sizeOf123
  v228 := Tryd.zeroValue123
  t229 := Tryd.underlying124
  a229 := Tryd.isAgg124
  z229 := Tryd.sizeOf124
  v229 := Tryd.zeroValue124 }
open Go.Sort Go.RowKit in
theorem Tryd.slices_Sort_string (blk off cap : Nat) (ss : List (List UInt8)) (w : World) (hH : Holds encStr w blk off ss.toArray) (hblk : blk < w.heap.size) (hsz : ss.length < 4611686018427387904) :
    Calls Tryd.prog 21 #[.slice (some ⟨blk, off, none⟩) ss.length cap] w fun e w' =>
      e = .returned (.tuple #[]) ∧ ∃ n os, w' = grow (putRow encStr (Sort.ahead w n) blk off (ss.mergeSort fun x y => decide (x ≤ y)).toArray) os := Any.slices_Sort_string Tryd.lays190 blk off cap ss w hH hblk hsz
def Tryd.lays198_ren : Go.Shelf.Ren := ⟨fun | 198 => 27 | 261 => 35 | 311 => 56 | 312 => 57 | n => n, fun | 21 => 21 | 4 => 4 | 141 => 55 | 0 => 0 | 196 => 92 | 193 => 89 | 3 => 3 | 51 => 52 | 198 => 95 | 49 => 93 | 194 => 90 | 201 => 98 | 226 => 111 | 46 => 51 | 227 => 112 | n => n, fun | 5 => 2 | n => n⟩
theorem Tryd.lays198 : Go.Proofs.Lays.n198 Tryd.prog Tryd.lays198_ren := {
  mixed := by kernel_rfl
  f198 := Tryd.func27.trans (congrArg some (by kernel_rfl))
  f261 := Tryd.func35.trans (congrArg some (by kernel_rfl))
  f311 := Tryd.func56.trans (congrArg some (by kernel_rfl))
  f312 := Tryd.func57.trans (congrArg some (by kernel_rfl))
  t0 := Tryd.underlying0
  a0 := Tryd.isAgg0
  z0 := Tryd.sizeOf0
  v0 := Tryd.zeroValue0
  t3 := Tryd.underlying3
  a3 := Tryd.isAgg3
  z3 := Tryd.sizeOf3
  v3 := Tryd.zeroValue3
  t4 := Tryd.underlying4
  a4 := Tryd.isAgg4
  z4 := Tryd.sizeOf4
  v4 := Tryd.zeroValue4
  t21 := Tryd.underlying21
  a21 := Tryd.isAgg21
  z21 := Tryd.sizeOf21
  v21 := Tryd.zeroValue21
  t46 := Tryd.underlying51
  a46 := Tryd.isAgg51
  z46 := Tryd.sizeOf51
  v46 := Tryd.zeroValue51
  t49 := Tryd.underlying93
  a49 := Tryd.isAgg93
  z49 := Tryd.sizeOf93
  v49 := Tryd.zeroValue93
  t51 := Tryd.underlying52
  a51 := Tryd.isAgg52
  z51 := Tryd.sizeOf52
  v51 := Tryd.zeroValue52
  t141 := Tryd.underlying55
  a141 := Tryd.isAgg55
  z141 := Tryd.sizeOf55
  v141 := Tryd.zeroValue55
  t193 := Tryd.underlying89
  a193 := Tryd.isAgg89
  z193 := Tryd.sizeOf89
  v193 := Tryd.zeroValue89
  t194 := Tryd.underlying90
  a194 := Tryd.isAgg90
  z194 := Tryd.sizeOf90
  v194 := Tryd.zeroValue90
  t196 := Tryd.underlying92
  a196 := Tryd.isAgg92
  z196 := Tryd.sizeOf92
  v196 := Tryd.zeroValue92
  t198 := Tryd.underlying95
  a198 := Tryd.isAgg95
  z198 := Tryd.sizeOf95
  v198 := Tryd.zeroValue95
  t201 := Tryd.underlying98
  a201 := Tryd.isAgg98
  z201 := Tryd.sizeOf98
  v201 := Tryd.zeroValue98
  t226 := Tryd.underlying111
  a226 := Tryd.isAgg111
  z226 := Tryd.sizeOf111
  v226 := Tryd.zeroValue111
  t227 := Tryd.underlying112
  a227 := Tryd.isAgg112
  z227 := Tryd.sizeOf112
  v227 := Tryd.zeroValue112
  g5 := by kernel_rfl }
def Tryd.lays204_ren : Go.Shelf.Ren := ⟨fun | 204 => 19 | 262 => 32 | 313 => 44 | 274 => 62 | 275 => 63 | n => n, fun | 21 => 21 | 4 => 4 | 3 => 3 | 162 => 77 | 203 => 75 | 160 => 102 | 46 => 51 | 0 => 0 | 208 => 122 | 51 => 52 | 206 => 120 | n => n, fun | 13 => 3 | n => n⟩
theorem Tryd.lays204 : Go.Proofs.Lays.n204 Tryd.prog Tryd.lays204_ren := {
  mixed := by kernel_rfl
  f204 := Tryd.func19.trans (congrArg some (by kernel_rfl))
  f262 := Tryd.func32.trans (congrArg some (by kernel_rfl))
  f274 := Tryd.func62.trans (congrArg some (by kernel_rfl))
  f275 := Tryd.func63.trans (congrArg some (by kernel_rfl))
  f313 := Tryd.func44.trans (congrArg some (by kernel_rfl))
  t0 := Tryd.underlying0
  a0 := Tryd.isAgg0
  z0 := Tryd.sizeOf0
  v0 := Tryd.zeroValue0
  t3 := Tryd.underlying3
  a3 := Tryd.isAgg3
  z3 := Tryd.sizeOf3
  v3 := Tryd.zeroValue3
  t4 := Tryd.underlying4
  a4 := Tryd.isAgg4
  z4 := Tryd.sizeOf4
  v4 := Tryd.zeroValue4
  t21 := Tryd.underlying21
  a21 := Tryd.isAgg21
  z21 := Tryd.sizeOf21
  v21 := Tryd.zeroValue21
  t46 := Tryd.underlying51
  a46 := Tryd.isAgg51
  z46 := Tryd.sizeOf51
  v46 := Tryd.zeroValue51
  t51 := Tryd.underlying52
  a51 := Tryd.isAgg52
  z51 := Tryd.sizeOf52
  v51 := Tryd.zeroValue52
  t160 := Tryd.underlying102
  a160 := Tryd.isAgg102
  z160 := Tryd.sizeOf102
  v160 := Tryd.zeroValue102
  t162 := Tryd.underlying77
  a162 := Tryd.isAgg77
  z162 := Tryd.sizeOf77
  v162 := Tryd.zeroValue77
  t203 := Tryd.underlying75
  a203 := Tryd.isAgg75
  z203 := Tryd.sizeOf75
  v203 := Tryd.zeroValue75
  t206 := Tryd.underlying120
  a206 := Tryd.isAgg120
  z206 := Tryd.sizeOf120
  v206 := Tryd.zeroValue120
  t208 := Tryd.underlying122
  a208 := Tryd.isAgg122
  z208 := Tryd.sizeOf122
  v208 := Tryd.zeroValue122
  g13 := by kernel_rfl }
def Tryd.lays200_ren : Go.Shelf.Ren := ⟨fun | 200 => 26 | 261 => 35 | 311 => 56 | 312 => 57 | n => n, fun | 21 => 21 | 4 => 4 | 51 => 52 | 5 => 5 | 119 => 53 | 0 => 0 | 141 => 55 | 196 => 92 | 193 => 89 | 3 => 3 | 198 => 95 | 49 => 93 | 194 => 90 | 201 => 98 | 226 => 111 | 46 => 51 | 227 => 112 | n => n, fun | 7 => 0 | 8 => 1 | n => n⟩
theorem Tryd.lays200 : Go.Proofs.Lays.n200 Tryd.prog Tryd.lays200_ren := {
  mixed := by kernel_rfl
  f200 := Tryd.func26.trans (congrArg some (by kernel_rfl))
  f261 := Tryd.func35.trans (congrArg some (by kernel_rfl))
  f311 := Tryd.func56.trans (congrArg some (by kernel_rfl))
  f312 := Tryd.func57.trans (congrArg some (by kernel_rfl))
  t0 := Tryd.underlying0
  a0 := Tryd.isAgg0
  z0 := Tryd.sizeOf0
  v0 := Tryd.zeroValue0
  t3 := Tryd.underlying3
  a3 := Tryd.isAgg3
  z3 := Tryd.sizeOf3
  v3 := Tryd.zeroValue3
  t4 := Tryd.underlying4
  a4 := Tryd.isAgg4
  z4 := Tryd.sizeOf4
  v4 := Tryd.zeroValue4
  t5 := Tryd.underlying5
  a5 := Tryd.isAgg5
  z5 := Tryd.sizeOf5
  v5 := Tryd.zeroValue5
  t21 := Tryd.underlying21
  a21 := Tryd.isAgg21
  z21 := Tryd.sizeOf21
  v21 := Tryd.zeroValue21
  t46 := Tryd.underlying51
  a46 := Tryd.isAgg51
  z46 := Tryd.sizeOf51
  v46 := Tryd.zeroValue51
  t49 := Tryd.underlying93
  a49 := Tryd.isAgg93
  z49 := Tryd.sizeOf93
  v49 := Tryd.zeroValue93
  t51 := Tryd.underlying52
  a51 := Tryd.isAgg52
  z51 := Tryd.sizeOf52
  v51 := Tryd.zeroValue52
  t119 := Tryd.underlying53
  a119 := Tryd.isAgg53
  z119 := Tryd.sizeOf53
  t141 := Tryd.underlying55
  a141 := Tryd.isAgg55
  z141 := Tryd.sizeOf55
  v141 := Tryd.zeroValue55
  t193 := Tryd.underlying89
  a193 := Tryd.isAgg89
  z193 := Tryd.sizeOf89
  v193 := Tryd.zeroValue89
  t194 := Tryd.underlying90
  a194 := Tryd.isAgg90
  z194 := Tryd.sizeOf90
  v194 := Tryd.zeroValue90
  t196 := Tryd.underlying92
  a196 := Tryd.isAgg92
  z196 := Tryd.sizeOf92
  v196 := Tryd.zeroValue92
  t198 := Tryd.underlying95
  a198 := Tryd.isAgg95
  z198 := Tryd.sizeOf95
  v198 := Tryd.zeroValue95
  t201 := Tryd.underlying98
  a201 := Tryd.isAgg98
  z201 := Tryd.sizeOf98
  v201 := Tryd.zeroValue98
  t226 := Tryd.underlying111
  a226 := Tryd.isAgg111
  z226 := Tryd.sizeOf111
  v226 := Tryd.zeroValue111
  t227 := Tryd.underlying112
  a227 := Tryd.isAgg112
  z227 := Tryd.sizeOf112
  v227 := Tryd.zeroValue112
  g7 := by kernel_rfl
  g8 := by kernel_rfl }
def Tryd.lays229_ren : Go.Shelf.Ren := ⟨fun | 229 => 29 | n => n, fun | 9 => 9 | 40 => 40 | 31 => 22 | 152 => 56 | 3 => 3 | 0 => 0 | 4 => 4 | 21 => 21 | 154 => 58 | n => n, fun | n => n⟩
theorem Tryd.lays229 : Go.Proofs.Lays.n229 Tryd.prog Tryd.lays229_ren := {
  mixed := by kernel_rfl
  f229 := Tryd.func29.trans (congrArg some (by kernel_rfl))
  t0 := Tryd.underlying0
  a0 := Tryd.isAgg0
  z0 := Tryd.sizeOf0
  v0 := Tryd.zeroValue0
  t3 := Tryd.underlying3
  a3 := Tryd.isAgg3
  z3 := Tryd.sizeOf3
  v3 := Tryd.zeroValue3
  t4 := Tryd.underlying4
  a4 := Tryd.isAgg4
  z4 := Tryd.sizeOf4
  v4 := Tryd.zeroValue4
  t9 := Tryd.underlying9
  a9 := Tryd.isAgg9
  z9 := Tryd.sizeOf9
  v9 := Tryd.zeroValue9
  t21 := Tryd.underlying21
  a21 := Tryd.isAgg21
  z21 := Tryd.sizeOf21
  v21 := Tryd.zeroValue21
  t31 := Tryd.underlying22
  a31 := Tryd.isAgg22
  z31 := Tryd.sizeOf22
  v31 := Tryd.zeroValue22
  t40 := Tryd.underlying40
  a40 := Tryd.isAgg40
  z40 := Tryd.sizeOf40
  v40 := Tryd.zeroValue40
  t152 := Tryd.underlying56
  a152 := Tryd.isAgg56
  z152 := Tryd.sizeOf56
  v152 := Tryd.zeroValue56
  t154 := Tryd.underlying58
  a154 := Tryd.isAgg58
  z154 := Tryd.sizeOf58
  v154 := Tryd.zeroValue58 }
open Go.RowKit Go.Lib in
theorem Tryd.unicode_ToLower_laid (r : Int) (w : World) (hV : CaseVar 3 caseA w) :
    Calls Tryd.prog 19 #[.int .i32 r] w fun e w' => e = .returned (.int .i32 (toLowerU r)) ∧ ∃ q, w' = w.drewN q := Any.unicode_ToLower_laid Tryd.lays204 r w hV
def Tryd.lays230_ren : Go.Shelf.Ren := ⟨fun | 230 => 31 | 197 => 36 | 118 => 37 | 165 => 38 | 166 => 39 | 168 => 40 | 270 => 41 | 167 => 42 | 169 => 43 | 260 => 58 | 240 => 59 | 241 => 60 | 242 => 61 | 276 => 70 | 277 => 71 | 278 => 72 | n => n, fun | 107 => 41 | 9 => 9 | 72 => 62 | 0 => 0 | 4 => 4 | 3 => 3 | 21 => 21 | 105 => 63 | 76 => 69 | 5 => 5 | 75 => 68 | 70 => 59 | 20 => 20 | 37 => 60 | 127 => 101 | 119 => 53 | 46 => 51 | 139 => 115 | 138 => 114 | 164 => 116 | 51 => 52 | 80 => 74 | n => n, fun | 3 => 4 | 4 => 5 | n => n⟩
theorem Tryd.lays230 : Go.Proofs.Lays.n230 Tryd.prog Tryd.lays230_ren := {
  mixed := by kernel_rfl
  f118 := Tryd.func37.trans (congrArg some (by kernel_rfl))
  f165 := Tryd.func38.trans (congrArg some (by kernel_rfl))
  f166 := Tryd.func39.trans (congrArg some (by kernel_rfl))
  f167 := Tryd.func42.trans (congrArg some (by kernel_rfl))
  f168 := Tryd.func40.trans (congrArg some (by kernel_rfl))
  f169 := Tryd.func43.trans (congrArg some (by kernel_rfl))
  f197 := Tryd.func36.trans (congrArg some (by kernel_rfl))
  f230 := Tryd.func31.trans (congrArg some (by kernel_rfl))
  f240 := Tryd.func59.trans (congrArg some (by kernel_rfl))
  f241 := Tryd.func60.trans (congrArg some (by kernel_rfl))
  f242 := Tryd.func61.trans (congrArg some (by kernel_rfl))
  f260 := Tryd.func58.trans (congrArg some (by kernel_rfl))
  f270 := Tryd.func41.trans (congrArg some (by kernel_rfl))
  f276 := Tryd.func70.trans (congrArg some (by kernel_rfl))
  f277 := Tryd.func71.trans (congrArg some (by kernel_rfl))
  f278 := Tryd.func72.trans (congrArg some (by kernel_rfl))
  t0 := Tryd.underlying0
  a0 := Tryd.isAgg0
  z0 := Tryd.sizeOf0
  v0 := Tryd.zeroValue0
  t3 := Tryd.underlying3
  a3 := Tryd.isAgg3
  z3 := Tryd.sizeOf3
  v3 := Tryd.zeroValue3
  t4 := Tryd.underlying4
  a4 := Tryd.isAgg4
  z4 := Tryd.sizeOf4
  v4 := Tryd.zeroValue4
  t5 := Tryd.underlying5
  a5 := Tryd.isAgg5
  z5 := Tryd.sizeOf5
  v5 := Tryd.zeroValue5
  t9 := Tryd.underlying9
  a9 := Tryd.isAgg9
  z9 := Tryd.sizeOf9
  v9 := Tryd.zeroValue9
  t20 := Tryd.underlying20
  a20 := Tryd.isAgg20
  z20 := Tryd.sizeOf20
  v20 := Tryd.zeroValue20
  t21 := Tryd.underlying21
  a21 := Tryd.isAgg21
  z21 := Tryd.sizeOf21
  v21 := Tryd.zeroValue21
  t37 := Tryd.underlying60
  a37 := Tryd.isAgg60
  z37 := Tryd.sizeOf60
  v37 := Tryd.zeroValue60
  t46 := Tryd.underlying51
  a46 := Tryd.isAgg51
  z46 := Tryd.sizeOf51
  v46 := Tryd.zeroValue51
  t51 := Tryd.underlying52
  a51 := Tryd.isAgg52
  z51 := Tryd.sizeOf52
  v51 := Tryd.zeroValue52
  t70 := Tryd.underlying59
  a70 := Tryd.isAgg59
  z70 := Tryd.sizeOf59
  v70 := Tryd.zeroValue59
  t72 := Tryd.underlying62
  a72 := Tryd.isAgg62
  z72 := Tryd.sizeOf62
  v72 := Tryd.zeroValue62
  t75 := Tryd.underlying68
  a75 := Tryd.isAgg68
  z75 := Tryd.sizeOf68
  v75 := Tryd.zeroValue68
  t76 := Tryd.underlying69
  a76 := Tryd.isAgg69
  z76 := Tryd.sizeOf69
  v76 := Tryd.zeroValue69
  t105 := Tryd.underlying63
  a105 := Tryd.isAgg63
  z105 := Tryd.sizeOf63
  v105 := Tryd.zeroValue63
  t107 := Tryd.underlying41
  a107 := Tryd.isAgg41
  z107 := Tryd.sizeOf41
  v107 := Tryd.zeroValue41
  t119 := Tryd.underlying53
  a119 := Tryd.isAgg53
  z119 := Tryd.sizeOf53
  t127 := Tryd.underlying101
  a127 := Tryd.isAgg101
  z127 := Tryd.sizeOf101
  v127 := Tryd.zeroValue101
  t138 := Tryd.underlying114
  a138 := Tryd.isAgg114
  z138 := Tryd.sizeOf114
  v138 := Tryd.zeroValue114
  t139 := Tryd.underlying115
  a139 := Tryd.isAgg115
  z139 := Tryd.sizeOf115
  v139 := Tryd.zeroValue115
  t164 := Tryd.underlying116
  a164 := Tryd.isAgg116
  z164 := Tryd.sizeOf116
  v164 := Tryd.zeroValue116
  g3 := by kernel_rfl
  g4 := by kernel_rfl }
theorem Tryd.Builder_Extra_230 : Builder.Extra Tryd.prog Tryd.lays230_ren := {
  sizeBuilder := by kernel_rfl
  liesBuilder := by kernel_rfl
  t5 := Tryd.underlying5
  a5 := Tryd.isAgg5
  z5 := Tryd.sizeOf5
  v5 := Tryd.zeroValue5
  infoByte := by kernel_rfl
  cellsByte := by kernel_rfl
  sizeByte := by kernel_rfl
  neB5 := by decide }
open Go.RowKit Go.Lib in
theorem Tryd.strings_FieldsFunc_grows (g : Nat) (lb : Array Value) (eg : ∀ args w, (callFunc g args).run Tryd.prog w = .ok (.enter g args) w) (p : Nat → Bool) (s : ByteArray) (w : World) (hs : s.size ≤ 4294967296) (hp : PredGrows Tryd.prog g lb p w) :
    Calls Tryd.prog 29 #[.string s, .func (.func g) #[] lb] w fun e w' => ∃ A, e = .returned (.slice (some ⟨A, 0, none⟩) (Lib.goFieldsP p s).length (Lib.goFieldsP p s).length) ∧ w.heap.size ≤ A ∧
      w'.ownsRow w.heap.size 9 1 (.slice (some ⟨A, 0, none⟩) (Lib.goFieldsP p s).length (Lib.goFieldsP p s).length) (Lib.goFieldsP p s).length ((Lib.goFieldsP p s).map Value.string) ∧ Below w.heap.size w w' := Any.strings_FieldsFunc_grows Tryd.lays229 g lb eg p s w hs hp (by kernel_rfl) (by kernel_rfl)
open Go.RowKit Go.Lib in
theorem Tryd.unicode_IsLetter_all (r : Int) (w : World) (hlo : -2147483648 ≤ r) (hhi : r ≤ 2147483647) (htab : Lib.TabIs Tryd.prog w "unicode.properties" .u8 Lib.propertiesTab) (hV : RVar 1 letterT w) :
    Calls Tryd.prog 26 #[.int .i32 r] w fun e w' => e = .returned (.bool (isLetterU r)) ∧ Below w.heap.size w w' := Any.unicode_IsLetter_all Tryd.lays200 (by kernel_rfl) r w hlo hhi htab hV
open Go.RowKit Go.Lib in
theorem Tryd.unicode_IsDigit_all (r : Int) (w : World) (hlo : -2147483648 ≤ r) (hhi : r ≤ 2147483647) (hV : RVar 2 digitT w) :
    Calls Tryd.prog 27 #[.int .i32 r] w fun e w' => e = .returned (.bool (isDigitU r)) ∧ Below w.heap.size w w' := Any.unicode_IsDigit_all Tryd.lays198 r w hlo hhi hV
open Go.RowKit Go.Lib in
theorem Tryd.strings_Map_grows (g : Nat) (lb : Array Value) (eg : ∀ args w, (callFunc g args).run Tryd.prog w = .ok (.enter g args) w) (f : Int → Int) (s : ByteArray) (w : World) (hs : s.size < 35184372088832) (hf : MapGrows Tryd.prog g lb f w) (hnn : ∀ x : Nat, x ≤ 1114111 → -2147483648 ≤ f x ∧ f x ≤ 2147483647) (hT : Lib.Utf8Tabs 4 5 w) :
    Calls Tryd.prog 31 #[.func (.func g) #[] lb, .string s] w fun e w' => e = .returned (.string ⟨(Lib.mapD f s.data.toList).toArray⟩) ∧ Below w.heap.size w w' := Any.strings_Map_grows Tryd.lays230 Tryd.Builder_Extra_230 g lb eg f s w hs hf hnn hT
def Tryd.laysNm216_ren : Go.Shelf.Ren := ⟨fun | 16 => 23 | n => n, fun | 24 => 22 | 9 => 9 | 4 => 4 | n => n, fun | n => n⟩
theorem Tryd.laysNm216 : Go.Proofs.Lays2.n16 Tryd.prog Tryd.laysNm216_ren := {
  mixed := by kernel_rfl
  f16 := Tryd.func23.trans (congrArg some (by kernel_rfl))
  t4 := Tryd.underlying4
  a4 := Tryd.isAgg4
  z4 := Tryd.sizeOf4
  v4 := Tryd.zeroValue4
  t9 := Tryd.underlying9
  a9 := Tryd.isAgg9
  z9 := Tryd.sizeOf9
  v9 := Tryd.zeroValue9
  t24 := Tryd.underlying22
  a24 := Tryd.isAgg22
  z24 := Tryd.sizeOf22
  v24 := Tryd.zeroValue22
  i9 := by kernel_rfl }
open Go.RowKit Go.Lib in
theorem Tryd.slices_Clone_string (b off n c : Nat) (zs : List ByteArray) (w : World) (hz : n ≤ zs.length) (hbig : n * 16 ≤ 140737488355328) (hc : ∀ j, j < zs.length → w.cell? ⟨b, off + j, none⟩ = some (.string (zs.getD j ByteArray.empty))) :
    Calls Tryd.prog 23 #[.slice (some ⟨b, off, none⟩) n c] w fun e w' => ∃ v', e = .returned v' ∧ w'.ownsRow w.heap.size 9 1 v' n ((zs.take n).map (Value.string)) ∧ v' ≠ .slice none 0 0 ∧ Below w.heap.size w w' := Any.slices_Clone_string Tryd.laysNm216 b off n c zs w hz hbig hc
open Go.RowKit Go.Lib in
theorem Tryd.slices_Clone_string_nil (n c : Nat) (w : World) :
    Calls Tryd.prog 23 #[.slice none n c] w fun e w' => e = .returned (.slice none 0 0) ∧ w' = w := Any.slices_Clone_string_nil Tryd.laysNm216 n c w
open Go.RowKit Go.Lib in
theorem Tryd.slices_Clone_string_zero (a : Addr) (c : Nat) (w : World) :
    Calls Tryd.prog 23 #[.slice (some a) 0 c] w fun e w' => ∃ v', e = .returned v' ∧ w'.ownsRow w.heap.size 9 1 v' 0 [] ∧ v' ≠ .slice none 0 0 ∧ Below w.heap.size w w' := Any.slices_Clone_string_zero Tryd.laysNm216 a c w
def Tryd.lays194_ren : Go.Shelf.Ren := ⟨fun | 194 => 22 | n => n, fun | 31 => 22 | 9 => 9 | 3 => 3 | 4 => 4 | 0 => 0 | n => n, fun | n => n⟩
theorem Tryd.lays194 : Go.Proofs.Lays.n194 Tryd.prog Tryd.lays194_ren := {
  mixed := by kernel_rfl
  f194 := Tryd.func22.trans (congrArg some (by kernel_rfl))
  t0 := Tryd.underlying0
  a0 := Tryd.isAgg0
  z0 := Tryd.sizeOf0
  v0 := Tryd.zeroValue0
  t3 := Tryd.underlying3
  a3 := Tryd.isAgg3
  z3 := Tryd.sizeOf3
  v3 := Tryd.zeroValue3
  t4 := Tryd.underlying4
  a4 := Tryd.isAgg4
  z4 := Tryd.sizeOf4
  v4 := Tryd.zeroValue4
  t9 := Tryd.underlying9
  a9 := Tryd.isAgg9
  z9 := Tryd.sizeOf9
  v9 := Tryd.zeroValue9
  t31 := Tryd.underlying22
  a31 := Tryd.isAgg22
  z31 := Tryd.sizeOf22
  v31 := Tryd.zeroValue22 }
open Go.RowKit Go.Lib Go.Sort in
theorem Tryd.slices_Compact_string (blk off cap : Nat) (zs : List (List UInt8)) (w : World) (hH : Holds encStr w blk off zs.toArray) (hsz : zs.length ≤ 9223372036854775807) (hcap : zs.length ≤ cap) :
    Calls Tryd.prog 22 #[.slice (some ⟨blk, off, none⟩) zs.length cap] w fun e w' => e = .returned (.slice (some ⟨blk, off, none⟩) (Lib.compact zs).length cap) ∧ ∃ q, w' = putRow encStr (Sort.ahead w q) blk off (Lib.compact zs ++ List.replicate (zs.length - (Lib.compact zs).length) []).toArray := Any.slices_Compact_string Tryd.lays194 blk off cap zs w hH hsz hcap
open Go.RowKit Go.Lib Go.Sort in
theorem Tryd.slices_Compact_string_empty (a : Option Addr) (cap : Nat) (w : World) :
    Calls Tryd.prog 22 #[.slice a 0 cap] w fun e w' => e = .returned (.slice a 0 cap) ∧ w' = w := Any.slices_Compact_string_empty Tryd.lays194 a cap w
open Go.RowKit Go.Sort in
theorem Tryd.slices_Sort_string_none (p : Option Addr) (cap : Nat) (w : World) :
    Calls Tryd.prog 21 #[.slice p 0 cap] w fun e w' => e = .returned (.tuple #[]) ∧ w' = w := Any.slices_Sort_string_none Tryd.lays190 p cap w
end Go.Proofs

/-
  The library's functions by the kit's contracts: runes, fields, mapping, cloning.
-/
namespace Go.Proofs.YtghinideddfcpaaDoor
open Go.Ev Go.RowKit Go.Shelf Go.Lib

theorem sum_flat {f : Nat} (hb : hasBody Tryd.prog f = true) {p : List AV → Tr AV}
    (h : ∀ (ρ : Type) (w : World) (S : Nat → Prop) (avs : List AV) (args : List Value) (k : AV → Option ρ) (r : ρ), Facts w → (∀ b, S b → b < w.heap.size) → VRels w S nob avs args → (p avs).run k = some r →
      ∃ u v, k v = some r ∧ v.flat = true ∧ VRel w S nob v u ∧ Calls Tryd.prog f args.toArray w (fun e w' => e = .returned u ∧ Below w.heap.size w w')) : SumOK Tryd.prog f (ofT p) ∧ SNat (ofT p) := by
  refine ⟨fun ρ w S avs args k r hS hv hk => ?_, snat_ofT p⟩
  obtain ⟨u, v, hk', hf, hv', hc⟩ := h ρ w S avs args k r (hS.2 w (Kept.refl _ _)) hS.1 hv hk
  refine .inl ⟨hb, hc.mono fun e w' hq => ?_⟩
  exact ⟨u, v, fun _ => False, hq.1, hk', hq.2, fun _ h => h.elim, fun _ h => h.elim, flat_free hv' hf⟩
theorem facts_below {w w' : World} (h : Facts w) (hb : Below w.heap.size w w') : Facts w' :=
  ⟨TabIs_below (g := 0) (by kernel_rfl) h.1 hb, RVar_below h.2.1 hb, RVar_below h.2.2.1 hb, CaseVar_below h.2.2.2.1 hb, Utf8Tabs_below h.2.2.2.2 hb⟩
def r32 (r : Int) : Bool := decide (-2147483648 ≤ r) && decide (r ≤ 2147483647)
theorem r32_spec {r : Int} (h : r32 r = true) : -2147483648 ≤ r ∧ r ≤ 2147483647 := by simpa [r32] using h
def F26 : List AV → Tr AV
  | [.int .i32 r] => .gd (r32 r) (.leaf (.bool (isLetterU r)))
  | _ => .no
theorem ok26 : SumOK Tryd.prog 26 (ofT F26) ∧ SNat (ofT F26) := by
  refine sum_flat (by kernel_rfl) fun ρ w S avs args k r hF hS hv h => ?_
  unfold F26 at h
  split at h
  · rename_i n
    obtain ⟨hc, h⟩ := gd_some h
    obtain ⟨h0, h9⟩ := r32_spec hc
    obtain ⟨v, vs, rfl, h1, hv⟩ := hv.inv
    obtain rfl := hv.inv_nil
    rw [h1.int_inv]
    exact ⟨_, _, h, rfl, .bool _ _, Tryd.unicode_IsLetter_all n w h0 h9 hF.1 hF.2.1⟩
  · cases h
def F27 : List AV → Tr AV
  | [.int .i32 r] => .gd (r32 r) (.leaf (.bool (isDigitU r)))
  | _ => .no
theorem ok27 : SumOK Tryd.prog 27 (ofT F27) ∧ SNat (ofT F27) := by
  refine sum_flat (by kernel_rfl) fun ρ w S avs args k r hF hS hv h => ?_
  unfold F27 at h
  split at h
  · rename_i n
    obtain ⟨hc, h⟩ := gd_some h
    obtain ⟨h0, h9⟩ := r32_spec hc
    obtain ⟨v, vs, rfl, h1, hv⟩ := hv.inv
    obtain rfl := hv.inv_nil
    rw [h1.int_inv]
    exact ⟨_, _, h, rfl, .bool _ _, Tryd.unicode_IsDigit_all n w h0 h9 hF.2.2.1⟩
  · cases h
theorem below_drewN (w : World) : ∀ n, Below w.heap.size w (w.drewN n)
  | 0 => Below.refl _ _
  | n + 1 => (below_drewN w n).drew
def F19 : List AV → Tr AV
  | [.int .i32 r] => .leaf (.int .i32 (toLowerU r))
  | _ => .no
theorem ok19 : SumOK Tryd.prog 19 (ofT F19) ∧ SNat (ofT F19) := by
  refine sum_flat (by kernel_rfl) fun ρ w S avs args k r hF hS hv h => ?_
  unfold F19 at h
  split at h
  · rename_i n
    obtain ⟨v, vs, rfl, h1, hv⟩ := hv.inv
    obtain rfl := hv.inv_nil
    rw [h1.int_inv]
    exact ⟨_, _, h, rfl, .int _ _ _, (Tryd.unicode_ToLower_laid n w hF.2.2.2.1).mono fun e w' hq => ⟨hq.1, by obtain ⟨q, hq⟩ := hq.2; exact hq ▸ below_drewN w q⟩⟩
  · cases h
def F30 : List AV → Tr AV
  | [.str s] => .gd (decide (s.length < 9223372036854775807)) (.leaf (.int .i64 (Lib.runeCount ⟨s.toArray⟩)))
  | _ => .no
theorem ok30 : SumOK Tryd.prog 30 (ofT F30) ∧ SNat (ofT F30) := by
  refine sum_flat (by kernel_rfl) fun ρ w S avs args k r hF hS hv h => ?_
  unfold F30 at h
  split at h
  · rename_i s
    obtain ⟨hc, h⟩ := gd_some h
    obtain ⟨v, vs, rfl, h1, hv⟩ := hv.inv
    obtain rfl := hv.inv_nil
    rw [h1.str_inv]
    have hs : (ByteArray.mk s.toArray).size < 9223372036854775807 := by
      have := of_decide_eq_true hc
      simpa [ByteArray.size] using this
    refine ⟨_, _, h, rfl, .int _ _ _, (Tryd.utf8_RuneCountInString ⟨s.toArray⟩ w hs).mono fun e w' hq => ⟨hq.1, ?_⟩⟩
    obtain ⟨pos, hq⟩ := hq.2
    rw [hq]
    exact below_alloc w _
  · cases h
/-! what is no letter and no digit -/
noncomputable def GL : Env := { pure := [(26, ofT F26), (27, ofT F27)] }
theorem gL : GOK Tryd.prog GL := GOK.also (GOK.also g0 ok27) ok26
def ltU (r : Int) : Bool := !(r == 65533) && (isLetterU r || isDigitU r)
def F18 : List AV → Tr AV
  | [.int .i32 r'] => .gd (r32 r') (.leaf (.bool (ltU r')))
  | _ => .no
theorem ok18 : SumOK Tryd.prog 18 (ofT F18) ∧ SNat (ofT F18) := by
  refine fn0 gL Tryd.func18 (by kernel_rfl) fun ρ avs k r h => ?_
  unfold F18 at h
  split at h
  · rename_i r'
    obtain ⟨hc, hk⟩ := gd_some h
    refine Eq.trans (b := bif r' != (65533 : Int) then bif r32 r' then bif isLetterU r' then k (AV.bool true) else bif r32 r' then k (AV.bool (isDigitU r')) else none else none else k (AV.bool false)) (by kernel_rfl) ?_
    rw [← hk]
    unfold ltU
    cases h1 : r' == 65533
    · simp only [bne, h1, Bool.not_false, cond_true, hc]
      cases isLetterU r' <;> rfl
    · simp only [bne, h1, Bool.not_true, cond_false]
      rfl
  · cases h
def notW (x : Nat) : Bool := !isLetterU (x : Int) && !isDigitU (x : Int)
set_option maxHeartbeats 1000000 in
set_option maxRecDepth 1000000 in
theorem clo_pays (w : World) (hT : Facts w) : PredGrows Tryd.prog 25 #[] notW w := by
  intro W x hx hb
  have hTW := facts_below hT hb
  have cL := Tryd.unicode_IsLetter_all (x : Int) W (by omega) (by omega) hTW.1 hTW.2.1
  have cD : ∀ W1, Below W.heap.size W W1 → Calls Tryd.prog 27 #[.int .i32 (x : Int)] W1 fun e w' => e = .returned (.bool (isDigitU (x : Int))) ∧ Below W1.heap.size W1 w' :=
    fun W1 h1 => Tryd.unicode_IsDigit_all (x : Int) W1 (by omega) (by omega) (facts_below hTW h1).2.2.1
  show Calls Tryd.prog 25 #[.int .i32 (x : Int)] W _
  unfold notW
  clear hT hTW
  cases hl : isLetterU (x : Int) <;> cases hd : isDigitU (x : Int) <;> rw [hl] at cL <;> simp only [hd] at cD
  all_goals (
    go_enter Tryd.func25, Tryd.ntmps25
    go_wp2_with (first
      | (go_at_call 26; refine cL.mono ?_; rintro e W1 ⟨rfl, hb1⟩)
      | (go_at_call 27; refine (cD _ hb1).mono ?_; rintro e W2 ⟨rfl, hb2⟩))
    go_ret
    first
      | exact ⟨rfl, hb1.trans (hb2.mono hb1.size)⟩
      | exact ⟨rfl, hb1⟩)
/-! texts in slices -/
theorem strs_of {es : List AV} (h : ∀ e ∈ es, hasSh .str e = true) : ∃ l : List (List UInt8), es = l.map AV.str := by
  refine ⟨es.map AV.toStr, ?_⟩
  rw [List.map_map]
  symm
  conv => rhs; rw [← List.map_id es]
  refine List.map_congr_left fun v hv => ?_
  have := h v hv
  cases v <;> simp [hasSh, has1] at this
  rfl
theorem flat_strs : ∀ l : List (List UInt8), flat (l.map AV.str) = l.map AV.str
  | [] => rfl
  | s :: l => by
    show AV.cells (AV.str s) ++ flat (l.map AV.str) = _
    rw [flat_strs l]; rfl
theorem strs_vals {w : World} {S : Nat → Prop} {l : List (List UInt8)} {xs : List Value} (hv : VRels w S nob (l.map AV.str) xs) : xs = l.map fun s => Value.string ⟨s.toArray⟩ := by
  refine List.ext_getElem? fun j => ?_
  rw [List.getElem?_map]
  cases hj : l[j]? with
  | none =>
    have : xs.length = l.length := by rw [hv.1, List.length_map]
    rw [List.getElem?_eq_none (by rw [this]; exact List.getElem?_eq_none_iff.1 hj)]
    rfl
  | some n =>
    obtain ⟨u, hu, hr⟩ := hv.at_ (j := j) (c := .str n) (by rw [List.getElem?_map, hj]; rfl)
    rw [hu, hr.str_inv]
    rfl
theorem strs_rel {w : World} {S : Nat → Prop} (l : List (List UInt8)) : VRels w S nob (l.map AV.str) (l.map fun s => Value.string ⟨s.toArray⟩) := by
  refine ⟨by simp, fun j c u hc hu => ?_⟩
  rw [List.getElem?_map] at hc hu
  cases hj : l[j]? with
  | none => rw [hj] at hc; simp at hc
  | some y => rw [hj] at hc hu; simp at hc hu; subst hc hu; exact .str _ _
theorem spot_none {w : World} {a : Addr} {v : Value} (h : w.cell? a = some v) : a.spot = none := by
  unfold World.cell? at h
  split at h
  · split at h
    · cases h
    · rename_i hs; simpa using hs
  · cases h
theorem Addr.eta {a : Addr} (h : a.spot = none) : a = ⟨a.block, a.off, none⟩ := by
  cases a; simp_all
/-- A slice of texts that a call has made. -/
theorem own_strs {w' : World} {B : Nat} {v : Value} {ys : List (List UInt8)} (h : w'.ownsRow B 9 1 v ys.length (ys.map fun y => Value.string ⟨y.toArray⟩)) : ∃ S' : Nat → Prop, (∀ b, S' b → B ≤ b ∧ b < w'.heap.size) ∧ VRel w' S' nob (.slv .str (ys.map AV.str)) v := by
  have hsh : ∀ e ∈ ys.map AV.str, hasSh .str e = true := fun e he => by
    obtain ⟨y, _, rfl⟩ := List.mem_map.1 he
    rfl
  have h1c : ∀ u ∈ ys.map (fun y => Value.string ⟨y.toArray⟩), u.oneCell' = true := fun u hu => by
    obtain ⟨y, _, rfl⟩ := List.mem_map.1 hu
    rfl
  rcases h.2 with ⟨rfl, hn⟩ | ⟨g, cap, cur, rfl, hb, hg, hn, hm, hs, ht⟩
  · have he : ys = [] := List.length_eq_zero_iff.1 hn
    subst he
    exact ⟨fun _ => False, fun _ h => h.elim, .slv nob .str [] none 0 ⟨0, 0, none⟩ [] (by simp) (Nat.le_refl _) (by decide) (fun h => absurd rfl h) rfl (by simp) (by simp) (by simp [flat])⟩
  · have hlt : g < w'.heap.size := (Array.getElem?_eq_some_iff.1 hg).1
    refine ⟨fun b => b = g, fun b hb' => ⟨by omega, by omega⟩, ?_⟩
    have hr := strs_rel (w := w') (S := fun b => b = g) ys
    have hrel : VRel w' (fun b => b = g) nob (.slv .str (ys.map AV.str)) (.slice (some ⟨g, 0, none⟩) (ys.map AV.str).length cap) := by
      refine .slv nob .str (ys.map AV.str) (some ⟨g, 0, none⟩) cap ⟨g, 0, none⟩ (ys.map fun y => Value.string ⟨y.toArray⟩) hsh (by rw [List.length_map]; exact hn) hm (fun _ => ⟨rfl, rfl⟩) (by rw [flat_strs]; simp) h1c (fun j u hu => ?_) (by rw [flat_strs]; exact hr.2)
      rw [add_lit, row_cell (Lies.plain hg (m := false))]
      have hj : (cur.toList.take (ys.length * 1))[j]? = (ys.map fun y => Value.string ⟨y.toArray⟩)[j]? := congrArg (fun l => l[j]?) ht
      rw [hu, List.getElem?_take] at hj
      split at hj
      · simpa using hj
      · cases hj
    rw [List.length_map] at hrel
    exact hrel
/-! fields, mapping -/
def fldW (s : List UInt8) : List (List UInt8) := (goFieldsP notW ⟨s.toArray⟩).map (·.data.toList)
def F29 : List AV → Tr AV
  | [.str s, .fn 25 []] => .gd (decide (s.length ≤ 4294967296)) (.leaf (.slv .str ((fldW s).map AV.str)))
  | _ => .no
theorem ok29 : SumOK Tryd.prog 29 (ofT F29) ∧ SNat (ofT F29) := by
  refine ⟨fun ρ w S avs args k r hS hv h => ?_, snat_ofT _⟩
  change (F29 avs).run k = some r at h
  unfold F29 at h
  split at h
  · rename_i s
    obtain ⟨hc, hk⟩ := gd_some h
    have hs := of_decide_eq_true hc
    obtain ⟨v, vs, rfl, h1, hv⟩ := hv.inv
    obtain ⟨u, us, rfl, h2, hv⟩ := hv.inv
    obtain rfl := hv.inv_nil
    rw [h1.str_inv]
    have hu : u = .func (.func 25) #[] #[] := by
      cases h2 with
      | fn _ _ _ vs hl _ =>
        have : vs = [] := List.length_eq_zero_iff.1 hl
        subst this; rfl
    subst hu
    have hF := hS.2 w (Kept.refl _ _)
    refine .inl ⟨by kernel_rfl, (Tryd.strings_FieldsFunc_grows 25 #[] (enters_of Tryd.func25 (by kernel_rfl) rfl) notW ⟨s.toArray⟩ w (by rw [Ev.size_mk]; exact hs) (clo_pays w hF)).mono fun e w' hq => ?_⟩
    obtain ⟨A, he, hA, hown, hb⟩ := hq
    have hm : (goFieldsP notW ⟨s.toArray⟩).map Value.string = (fldW s).map fun y => Value.string ⟨y.toArray⟩ := by
      unfold fldW
      rw [List.map_map]
      refine List.map_congr_left fun b _ => ?_
      cases b; simp
    have hl : (goFieldsP notW ⟨s.toArray⟩).length = (fldW s).length := by unfold fldW; rw [List.length_map]
    rw [hm, hl] at hown
    rw [hl] at he
    obtain ⟨S', hS1, hrel⟩ := own_strs hown
    exact ⟨_, _, S', he, hk, hb, fun b hb => .inr (hS1 b hb).1, fun b hb => (hS1 b hb).2, hrel⟩
  · cases h
theorem lower_pays (w : World) (hT : Facts w) : MapGrows Tryd.prog 19 #[] toLowerU w := fun W x _ hb =>
  (Tryd.unicode_ToLower_laid (x : Int) W (facts_below hT hb).2.2.2.1).mono fun e w' hq => ⟨hq.1, by obtain ⟨q, hq⟩ := hq.2; exact hq ▸ below_drewN W q⟩
def F31 : List AV → Tr AV
  | [.fn 19 [], .str s] => .gd (decide (s.length < 35184372088832)) (.leaf (.str (mapD toLowerU s)))
  | _ => .no
theorem lower_range (x : Nat) (hx : x ≤ 1114111) : -2147483648 ≤ toLowerU x ∧ toLowerU x ≤ 2147483647 := by
  have := toLowerU_range x hx
  omega
theorem ok31 : SumOK Tryd.prog 31 (ofT F31) ∧ SNat (ofT F31) := by
  refine sum_flat (by kernel_rfl) fun ρ w S avs args k r hF hS hv h => ?_
  unfold F31 at h
  split at h
  · rename_i s
    obtain ⟨hc, h⟩ := gd_some h
    have hs := of_decide_eq_true hc
    obtain ⟨u, us, rfl, h2, hv⟩ := hv.inv
    obtain ⟨v, vs, rfl, h1, hv⟩ := hv.inv
    obtain rfl := hv.inv_nil
    rw [h1.str_inv]
    have hu : u = .func (.func 19) #[] #[] := by
      cases h2 with
      | fn _ _ _ vs hl _ =>
        have : vs = [] := List.length_eq_zero_iff.1 hl
        subst this; rfl
    subst hu
    exact ⟨_, _, h, rfl, .str _ _, Tryd.strings_Map_grows 19 #[] (enters_of Tryd.func19 (by kernel_rfl) rfl) toLowerU ⟨s.toArray⟩ w (by rw [Ev.size_mk]; exact hs) (lower_pays w hF) lower_range hF.2.2.2.2⟩
  · cases h
/-! Clone -/
def F23 : List AV → Tr AV
  | [.slv .str es] => .gd (decide (es.length ≤ 1000000)) (.leaf (.slv .str es))
  | _ => .no
theorem ok23 : SumOK Tryd.prog 23 (ofT F23) ∧ SNat (ofT F23) := by
  refine ⟨fun ρ w S avs args k r hS hv h => ?_, snat_ofT _⟩
  change (F23 avs).run k = some r at h
  unfold F23 at h
  split at h
  · rename_i es
    obtain ⟨hc, hk⟩ := gd_some h
    have hn := of_decide_eq_true hc
    obtain ⟨v, vs, rfl, h1, hv⟩ := hv.inv
    obtain rfl := hv.inv_nil
    cases h1 with
    | slv _ _ _ A c a xs hs hcap hm hA hl' h1' hx hr =>
      obtain ⟨l, rfl⟩ := strs_of hs
      rw [flat_strs] at hl' hr
      have hxs := strs_vals ⟨hl', hr⟩
      subst hxs
      refine .inl ⟨by kernel_rfl, ?_⟩
      rcases l with _ | ⟨s0, l⟩
      · cases A with
        | none =>
          refine (Tryd.slices_Clone_string_nil _ _ w).mono fun e w' hq => ?_
          have hrel : VRel w' (fun _ => False) nob (.slv .str []) (.slice none 0 0) := .slv nob .str [] none 0 ⟨0, 0, none⟩ [] (by simp) (Nat.le_refl _) (by decide) (fun h => absurd rfl h) rfl (by simp) (by simp) (by simp [flat])
          exact ⟨_, _, fun _ => False, hq.1, hk, hq.2 ▸ Below.refl _ _, fun _ h => h.elim, fun _ h => h.elim, hrel⟩
        | some A =>
          refine (Tryd.slices_Clone_string_zero A c w).mono fun e w' hq => ?_
          obtain ⟨v', he, hown, _, hb⟩ := hq
          obtain ⟨S', hS1, hrel⟩ := own_strs (ys := []) hown
          exact ⟨_, _, S', he, hk, hb, fun b hb => .inr (hS1 b hb).1, fun b hb => (hS1 b hb).2, hrel⟩
      · obtain ⟨hA1, hA2⟩ := hA (by simp)
        have hsp : a.spot = none := spot_none (hx 0 _ rfl)
        rw [hA1, Addr.eta hsp]
        have hcells : ∀ j, j < ((s0 :: l).map fun s : List UInt8 => (⟨s.toArray⟩ : ByteArray)).length → w.cell? ⟨a.block, a.off + j, none⟩ = some (.string (((s0 :: l).map fun s : List UInt8 => (⟨s.toArray⟩ : ByteArray)).getD j ByteArray.empty)) := fun j hj => by
          rw [List.length_map] at hj
          have h3 := hx j (.string ⟨((s0 :: l)[j]).toArray⟩) (by rw [List.getElem?_map, List.getElem?_eq_getElem hj]; rfl)
          have h4 : ((s0 :: l).map fun s : List UInt8 => (⟨s.toArray⟩ : ByteArray)).getD j ByteArray.empty = ⟨((s0 :: l)[j]).toArray⟩ := by
            rw [List.getD, List.getElem?_map, List.getElem?_eq_getElem hj]; rfl
          rw [h4, ← h3]
          congr 1
          unfold Addr.add
          split
          · rename_i h0; rw [h0]; exact (Addr.eta hsp).symm
          · rfl
        rw [List.length_map] at hn hcap ⊢
        refine (Tryd.slices_Clone_string a.block a.off (s0 :: l).length c ((s0 :: l).map fun s : List UInt8 => (⟨s.toArray⟩ : ByteArray)) w (by rw [List.length_map]; exact Nat.le_refl _) (by omega) hcells).mono fun e w' hq => ?_
        obtain ⟨v', he, hown, _, hb⟩ := hq
        rw [List.take_of_length_le (by rw [List.length_map]; exact Nat.le_refl _), List.map_map] at hown
        obtain ⟨S', hS1, hrel⟩ := own_strs (ys := s0 :: l) hown
        exact ⟨_, _, S', he, hk, hb, fun b hb => .inr (hS1 b hb).1, fun b hb => (hS1 b hb).2, hrel⟩
  · cases h
end Go.Proofs.YtghinideddfcpaaDoor

/-
  slices.Sort and slices.Compact over a slice of texts of the caller's own.
-/
namespace Go.Proofs.YtghinideddfcpaaDoor
open Go.Ev Go.RowKit Go.Shelf Go.Lib Go.Sort

theorem put_list (cur : Array Value) (ts : List (List UInt8)) (h : ts.length ≤ cur.size) : (putCells encStr 0 ts.toArray cur).toList = ts.map encStr ++ cur.toList.drop ts.length := by
  have h1 := take_putCells cur ts h
  have h2 : (putCells encStr 0 ts.toArray cur).toList.drop ts.length = cur.toList.drop ts.length := by
    refine List.ext_getElem? fun j => ?_
    rw [List.getElem?_drop, List.getElem?_drop, Array.getElem?_toList, Array.getElem?_toList]
    simp only [putCells, Array.getElem?_mapIdx]
    cases cur[ts.length + j]? with
    | none => rfl
    | some y =>
      simp only [Option.map_some]
      rw [if_neg (by simp)]
  rw [← List.take_append_drop ts.length (putCells encStr 0 ts.toArray cur).toList, h1, h2]
def encS (s : List UInt8) : Value := .string ⟨s.toArray⟩
theorem encS_eq (s : List UInt8) : encStr s = encS s := rfl
/-- The row of the argument: its texts, its memory. -/
theorem row_of {w : World} {S B : Nat → Prop} {β : Bet} {og : Nat → Option Nat} {e : TypeId} {es : List AV} {sp0 : Option (List AV)} (hH : Heap w S B β og (zipIds PID [.arr false .str e es sp0])) :
    ∃ (v : Value) (le lp : List (List UInt8)), es = le.map AV.str ∧ β PID = some (v, 1) ∧ ((le = [] ∧ lp = [] ∧ og PID = none ∧ ∃ A, v = .slice A 0 0) ∨
      ∃ g, og PID = some g ∧ v = .slice (some ⟨g, 0, none⟩) le.length (le.length + lp.length) ∧ ¬ B g ∧ ¬ S g ∧ w.heap[g]? = some (.cells ((le ++ lp).map encS).toArray e (0, 0)) ∧ le.length + lp.length ≤ maxLen) := by
  obtain ⟨_, v, sp, xs, hsh, _, hb, _, hvr, hor⟩ := hH.row PID (.arr false .str e es sp0) (by simp [zipIds, lookup])
  obtain ⟨l, hl⟩ := strs_of hsh
  have he : es = (l.take es.length).map AV.str := by
    rw [List.map_take, ← hl, List.take_left]
  have hp : sp = (l.drop es.length).map AV.str := by
    rw [List.map_drop, ← hl, List.drop_left]
  have hlen : (l.take es.length).length = es.length := by conv => rhs; rw [he, List.length_map]
  have hlen2 : (l.drop es.length).length = sp.length := by conv => rhs; rw [hp, List.length_map]
  refine ⟨v, l.take es.length, l.drop es.length, he, hb, ?_⟩
  rcases hor with ⟨h1, h2, h3, A, h4⟩ | ⟨g, h1, h2, h3, h4, h5, h6, _⟩
  · left
    refine ⟨?_, ?_, h3, A, h4⟩
    · rw [h1]; rfl
    · exact List.length_eq_zero_iff.1 (by rw [hlen2, h2]; rfl)
  · right
    rw [hl, flat_strs] at hvr
    have hxs := strs_vals hvr
    refine ⟨g, h1, by rw [hlen, hlen2]; exact h2, h3, h6 rfl, ?_, by rw [hlen, hlen2]; exact h5⟩
    obtain ⟨fz, hfz, hh⟩ := h4
    have : fz = (0, 0) := by
      rcases hfz with h | ⟨h, _⟩
      · exact h
      · cases h
    rw [this, hxs] at hh
    rw [List.take_append_drop]
    exact hh
theorem holds_strs {w : World} {g : Nat} {e : TypeId} {le lp : List (List UInt8)} (h : w.heap[g]? = some (.cells ((le ++ lp).map encS).toArray e (0, 0))) : Go.Sort.Holds encStr w g 0 le.toArray := by
  intro j hj
  have hj' : j < le.length := by simpa using hj
  refine ⟨?_, ?_⟩
  · rw [Nat.zero_add, row_cell (Lies.plain h (m := false))]
    have : ((le ++ lp).map encS)[j]? = some (encS le[j]) := by
      rw [List.getElem?_map, List.getElem?_append_left hj', List.getElem?_eq_getElem hj']; rfl
    simp only [List.getElem?_toArray, this]
    rw [encS_eq]
    simp [hj']
  · simp [World.frozen?, h]
theorem new_cells {w : World} {g n : Nat} {e : TypeId} {os : Array Obj} {le lp ts : List (List UInt8)} (h : w.heap[g]? = some (.cells ((le ++ lp).map encS).toArray e (0, 0))) (hl : ts.length = le.length) :
    (grow (putRow encStr (Sort.ahead w n) g 0 ts.toArray) os).heap[g]? = some (.cells ((ts ++ lp).map encS).toArray e (0, 0)) := by
  rw [heap_sorted _ h]
  congr 2
  apply Array.toList_inj.1
  rw [put_list _ _ (by simp; omega)]
  simp only [List.map_append, hl]
  rw [List.drop_left' (by rw [List.length_map])]
  rfl
def srtS (ss : List (List UInt8)) : List (List UInt8) := ss.mergeSort fun x y => decide (x ≤ y)
theorem srt_nil : srtS [] = [] := by simp [srtS]
theorem cmp_nil : Lib.compact ([] : List (List UInt8)) = [] := List.length_eq_zero_iff.1 (by have := Lib.compact_length_le ([] : List (List UInt8)); simpa using this)
def F21x : List AV → List Row → Tr XOut
  | [.own p], [.arr false .str e es _sp] => .gd (p == PID && decide (es.length ≤ 1000000)) (.leaf (.tup [], [some (.arr false .str e ((srtS (sL es)).map AV.str) none)], []))
  | _, _ => .no
theorem sL_strs (l : List (List UInt8)) : sL (l.map AV.str) = l := by
  unfold sL; rw [List.map_map]; exact List.map_id _
theorem ok21x : XOK Tryd.prog 21 (ofX F21x) ∧ XNat (ofX F21x) := by
  refine ⟨fun ρ w S B β og avs rows args k r hH hSB hdom hv h => ?_, xnat_ofX F21x⟩
  have h' : (F21x avs rows).run (fun q => k q.1 q.2.1 q.2.2) = some r := h
  unfold F21x at h'
  split at h'
  · rename_i p e es sp0
    obtain ⟨hc, hk⟩ := gd_some h'
    simp only [Bool.and_eq_true] at hc
    obtain ⟨hp, hn⟩ := hc
    obtain rfl : p = PID := by simpa using hp
    have hn := of_decide_eq_true hn
    obtain ⟨v, le, lp, rfl, hb, hor⟩ := row_of hH
    rw [List.length_map] at hn
    obtain ⟨u, us, rfl, h1, hv⟩ := hv.inv
    obtain rfl := hv.inv_nil
    have hu : u = v := by
      cases h1 with
      | own _ _ _ wd hb' => rw [hb] at hb'; simp at hb'; exact hb'.1.symm
    subst hu
    rw [sL_strs] at hk
    rcases hor with ⟨rfl, rfl, hog, A, rfl⟩ | ⟨g, hog, rfl, hBg, hSg, hh, hm⟩
    · refine .inl ⟨by kernel_rfl, (Tryd.slices_Sort_string_none A 0 w).mono fun e1 w' hq => ?_⟩
      obtain ⟨he, rfl⟩ := hq
      refine ⟨_, _, _, _, S, β, og, he, hk, ?_⟩
      refine ⟨Kept.refl _ _, fun _ h => h, fun _ h => .inl h, .tup _ [] [] rfl (fun j c u hc hu => by simp at hc), fun j r hj => ?_, fun j r hj => by simp at hj, hH.inj, hH.lt, hH.one, hH.Slt, fun _ _ _ h => h⟩
      match j with
      | 0 =>
        simp only [List.getElem?_cons_zero, Option.some.injEq] at hj
        subst hj
        rw [srt_nil]
        exact ⟨by decide, _, [], [], (by simp), (fun c h => by cases h), hb, by simp, ⟨rfl, fun j c u hc hu => by simp at hu⟩, .inl ⟨rfl, rfl, hog, A, rfl⟩⟩
      | j + 1 => simp at hj
    · have hglt : g < w.heap.size := (Array.getElem?_eq_some_iff.1 hh).1
      have hcs := Tryd.slices_Sort_string g 0 (le.length + lp.length) le w (holds_strs hh) hglt (by omega)
      refine .inl ⟨by kernel_rfl, hcs.mono fun e1 w' hq => ?_⟩
      obtain ⟨he, n, os, hw⟩ := hq
      have hl2 : (srtS le).length = le.length := List.length_mergeSort le
      have hgr : w.grownBy w' (some g) := by rw [hw]; exact grownBy_sorted _
      have hnew : w'.heap[g]? = some (.cells ((srtS le ++ lp).map encS).toArray e (0, 0)) := by rw [hw]; exact new_cells hh hl2
      have hsz : w.heap.size ≤ w'.heap.size := hgr.size
      refine ⟨_, _, _, _, S, β, og, he, hk, ?_⟩
      refine ⟨Kept.of_grown hgr hH.Ble (fun k hk => by cases hk; exact hBg), fun _ h => h, fun _ h => .inl h, .tup _ [] [] rfl (fun j c u hc hu => by simp at hc), fun j r hj => ?_, fun j r hj => by simp at hj, hH.inj, fun id g' hg => Nat.lt_of_lt_of_le (hH.lt id g' hg) hsz, hH.one, fun b hb => Nat.lt_of_lt_of_le (hH.Slt b hb) hsz, fun _ _ _ h => h⟩
      match j with
      | 0 =>
        simp only [List.getElem?_cons_zero, Option.some.injEq] at hj
        subst hj
        refine ⟨by decide, _, lp.map AV.str, (srtS le ++ lp).map encS, fun x hx => ?_, (fun c h => by cases h), hb, fun u hu => ?_, ?_, .inr ⟨g, hog, ?_, hBg, Lies.plain hnew, ?_, fun _ => hSg, (fun h => by cases h)⟩⟩
        · rw [← List.map_append] at hx
          obtain ⟨y, _, rfl⟩ := List.mem_map.1 hx
          rfl
        · obtain ⟨y, _, rfl⟩ := List.mem_map.1 hu
          rfl
        · rw [← List.map_append, flat_strs]
          exact strs_rel _
        · rw [List.length_map, List.length_map, hl2]
        · rw [List.length_map, List.length_map, hl2]; exact hm
      | j + 1 => simp at hj
  · cases h'
/-! Compact: what it hands back is not written any more -/
def F22x : List AV → List Row → Tr XOut
  | [.own p], [.arr false .str _e es _sp] => .gd (p == PID && decide (es.length ≤ 1000000)) (.leaf (.slv .str ((Lib.compact (sL es)).map AV.str), [none], []))
  | _, _ => .no
theorem ok22x : XOK Tryd.prog 22 (ofX F22x) ∧ XNat (ofX F22x) := by
  refine ⟨fun ρ w S B β og avs rows args k r hH hSB hdom hv h => ?_, xnat_ofX F22x⟩
  have h' : (F22x avs rows).run (fun q => k q.1 q.2.1 q.2.2) = some r := h
  unfold F22x at h'
  split at h'
  · rename_i p e es sp0
    obtain ⟨hc, hk⟩ := gd_some h'
    simp only [Bool.and_eq_true] at hc
    obtain ⟨hp, hn⟩ := hc
    obtain rfl : p = PID := by simpa using hp
    have hn := of_decide_eq_true hn
    obtain ⟨v, le, lp, rfl, hb, hor⟩ := row_of hH
    rw [List.length_map] at hn
    obtain ⟨u, us, rfl, h1, hv⟩ := hv.inv
    obtain rfl := hv.inv_nil
    have hu : u = v := by
      cases h1 with
      | own _ _ _ wd hb' => rw [hb] at hb'; simp at hb'; exact hb'.1.symm
    subst hu
    rw [sL_strs] at hk
    have hprow : ∀ {w' : World} {S' : Nat → Prop} (j : Nat) (r : Row), ([none] : List (Option Row))[j]? = some (some r) → RowRel w' S' B β (PID + j) (og (PID + j)) r := fun j r hj => by
      match j with
      | 0 => simp at hj
      | j + 1 => simp at hj
    rcases hor with ⟨rfl, rfl, hog, A, rfl⟩ | ⟨g, hog, rfl, hBg, hSg, hh, hm⟩
    · refine .inl ⟨by kernel_rfl, (Tryd.slices_Compact_string_empty A 0 w).mono fun e1 w' hq => ?_⟩
      obtain ⟨he, rfl⟩ := hq
      rw [cmp_nil] at hk
      have hrel : VRel w' S β (.slv .str []) (.slice A 0 0) := .slv β .str [] A 0 ⟨0, 0, none⟩ [] (by simp) (Nat.le_refl _) (by decide) (fun h => absurd rfl h) rfl (by simp) (by simp) (by simp [flat])
      refine ⟨_, _, _, _, S, β, og, he, hk, ?_⟩
      exact ⟨Kept.refl _ _, fun _ h => h, fun _ h => .inl h, hrel, hprow, fun j r hj => by simp at hj, hH.inj, hH.lt, hH.one, hH.Slt, fun _ _ _ h => h⟩
    · have hglt : g < w.heap.size := (Array.getElem?_eq_some_iff.1 hh).1
      have hle := Lib.compact_length_le le
      have hcs := Tryd.slices_Compact_string g 0 (le.length + lp.length) le w (holds_strs hh) (by omega) (by omega)
      refine .inl ⟨by kernel_rfl, hcs.mono fun e1 w' hq => ?_⟩
      obtain ⟨he, q, hw⟩ := hq
      have hl2 : (Lib.compact le ++ List.replicate (le.length - (Lib.compact le).length) ([] : List UInt8)).length = le.length := by rw [List.length_append, List.length_replicate]; omega
      have hw2 : w' = grow (putRow encStr (Sort.ahead w q) g 0 (Lib.compact le ++ List.replicate (le.length - (Lib.compact le).length) ([] : List UInt8)).toArray) #[] := by rw [grow_empty]; exact hw
      have hgr : w.grownBy w' (some g) := by rw [hw2]; exact grownBy_sorted _
      have hnew : w'.heap[g]? = some (.cells ((Lib.compact le ++ List.replicate (le.length - (Lib.compact le).length) ([] : List UInt8) ++ lp).map encS).toArray e (0, 0)) := by rw [hw2]; exact new_cells hh hl2
      have hsz := hgr.size
      have hrel : VRel w' (fun b => S b ∨ b = g) β (.slv .str ((Lib.compact le).map AV.str)) (.slice (some ⟨g, 0, none⟩) ((Lib.compact le).map AV.str).length (le.length + lp.length)) := by
        refine .slv β .str ((Lib.compact le).map AV.str) (some ⟨g, 0, none⟩) (le.length + lp.length) ⟨g, 0, none⟩ ((Lib.compact le).map encS) (fun x hx => ?_) (by rw [List.length_map]; omega) hm (fun _ => ⟨rfl, .inr rfl⟩) (by rw [flat_strs]; simp) (fun u hu => ?_) (fun j u hu => ?_) (by rw [flat_strs]; exact (strs_rel _).2)
        · obtain ⟨y, _, rfl⟩ := List.mem_map.1 hx
          rfl
        · obtain ⟨y, _, rfl⟩ := List.mem_map.1 hu
          rfl
        · rw [add_lit, row_cell (Lies.plain hnew (m := false))]
          have hj : j < (Lib.compact le).length := by
            have := (List.getElem?_eq_some_iff.1 hu).1
            simpa using this
          rw [List.append_assoc, List.map_append]
          simp only [List.getElem?_toArray]
          rw [List.getElem?_append_left (by rw [List.length_map]; exact hj)]
          exact hu
      rw [List.length_map] at hrel
      refine ⟨_, _, _, _, (fun b => S b ∨ b = g), β, og, he, hk, ?_⟩
      exact ⟨Kept.of_grown hgr hH.Ble (fun k hk => by cases hk; exact hBg), fun _ h => .inl h, fun b h => h.imp id (fun (e : b = g) => by rw [e]; exact hBg), hrel, hprow, fun j r hj => by simp at hj, hH.inj, fun id g' hg => Nat.lt_of_lt_of_le (hH.lt id g' hg) hsz, hH.one, fun b hb => by
        rcases hb with hb | rfl
        · exact Nat.lt_of_lt_of_le (hH.Slt b hb) hsz
        · exact Nat.lt_of_lt_of_le hglt hsz, fun _ _ _ h => h⟩
  · cases h'
end Go.Proofs.YtghinideddfcpaaDoor

namespace Go.Ev
open Go.RowKit

/-- A function without results. -/
def fnE : Func := { (default : Func) with results := #[] }
/-- A round: the parameters are laid, the assignment and the body are gone through. -/
noncomputable def evY (P : Program) (Γ : Env) (K : List (Nat × Loop)) (key : Int) (q : Array Tmp × Code × Code) : SummX := fun ρ avs rows k =>
  match avs, rows with
  | .own p :: xs, .box false (.tup [.int .i64 key'] :: tm) :: rest =>
    if p == PID && (key' == key && Nat.ble rest.length 999999) then
      (St.mk ((q.1.toList.zip xs).foldl (fun t p => t.set p.1 p.2) tm) (zipIds (PID + 1) rest) (List.range' PID (rest.length + 1))).force fun st =>
        evC P Γ K q.2.1 ρ st fun e st1 => match e with
          | .normal => evC P Γ K q.2.2 ρ st1 fun e st2 => match e with
            | .normal => finishX P fnE (rest.length + 1) st2 fun _ prow nrow => k (.bool true) (some (.box false (.tup [.int .i64 key] :: tm)) :: prow.tail) nrow
            | _ => none
          | _ => none
    else none
  | _, _ => none

theorem sets_rel {w : World} {S : Nat → Prop} {β : Bet} : ∀ (ps : List Nat) {xs tm : List AV} {args us : List Value}, VRels w S β xs args → VRels w S β tm us → VRels w S β ((ps.zip xs).foldl (fun t p => t.set p.1 p.2) tm) ((ps.zip args).foldl (fun t p => t.set p.1 p.2) us)
  | [], _, _, _, _, _, h => h
  | p :: ps, [], _, args, _, hx, h => by
    rw [hx.inv_nil]
    exact h
  | p :: ps, x :: xs, tm, args, us, hx, h => by
    obtain ⟨v, vs, rfl, hv, hvs⟩ := hx.inv
    exact sets_rel ps hvs (h.set p hv)
theorem foldl_sets : ∀ (l : List (Nat × Value)) (t : Array Value), (l.foldl (fun t p => t.setIfInBounds p.1 p.2) t).toList = l.foldl (fun t p => t.set p.1 p.2) t.toList
  | [], _ => rfl
  | p :: l, t => by
    rw [List.foldl_cons, List.foldl_cons, foldl_sets l]
    simp

section
variable {P : Program} {Γ : Env} {K : List (Nat × Loop)}
theorem lookup_zip1 {rows : List Row} {x : Row} {id : Nat} {r : Row} (h : lookup (zipIds (PID + 1) rows) id = some r) : id ≠ PID ∧ lookup (zipIds PID (x :: rows)) id = some r := by
  obtain ⟨hle, _⟩ := lookup_zipIds _ _ _ _ h
  have hne : id ≠ PID := by omega
  refine ⟨hne, ?_⟩
  show lookup ((PID, x) :: zipIds (PID + 1) rows) id = some r
  simp only [lookup]
  rw [if_neg (fun e => hne e.symm)]
  exact h

theorem yok_core (hΓ : GOK P Γ) (hD : DrawOK P Γ) (hr : Γ.rng = none) {key : Int} {q : Array Tmp × Code × Code} (hq : q = loopCode key) (hKa : KOK P Γ K q.2.1) (hKb : KOK P Γ K q.2.2)
    {ρ : Type} {w : World} {S B : Nat → Prop} {β : Bet} {og : Nat → Option Nat} {avs tm : List AV} {rows : List Row} {args : List Value} {k : AV → List (Option Row) → List Row → Option ρ} {r : ρ} {l : Nat} {r0 : Go.Loop} {us : List Value}
    (hH : Heap w S B β og (zipIds PID (.box false (.tup [.int .i64 key] :: tm) :: rows))) (hSB : (∀ b, S b → B b) ∧ Glb B w) (hdom : ∀ id x, β id = some x → PID ≤ id ∧ id < PID + (rows.length + 1)) (hv : VRels w S β avs args)
    (hbl : β PID = some (.func (.yield l) #[] #[], 1)) (hol : og PID = some l) (hhl : w.heap[l]? = some (.loop r0)) (hst : r0.state = .ready) (_hpd : r0.pending = none) (hlc : (r0.params, r0.assign, r0.body) = loopCode key) (htm : r0.tmps.toList = us) (htv : VRels w S β tm us) (hsm : rows.length ≤ 999999)
    (he : (evC P Γ K q.2.1 ρ (St.mk ((q.1.toList.zip avs).foldl (fun t p => t.set p.1 p.2) tm) (zipIds (PID + 1) rows) (List.range' PID (rows.length + 1))) fun e st1 => match e with
          | .normal => evC P Γ K q.2.2 ρ st1 fun e st2 => match e with
            | .normal => finishX P fnE (rows.length + 1) st2 fun _ prow nrow => k (.bool true) (some (.box false (.tup [.int .i64 key] :: tm)) :: prow.tail) nrow
            | _ => none
          | _ => none) = some r) :
    RoundIn Fence.wide 0 P l r0.fn ((r0.params.zip args.toArray).foldl (fun t (p, v) => t.setIfInBounds p v) r0.tmps) r0.assign r0.body w fun e w' => ∃ u v prow nrow S' β' og', e = .returned u ∧ k v prow nrow = some r ∧ After w S B β prow nrow v u w' S' β' og' := by
  obtain ⟨hSB, hG⟩ := hSB
  have hqq : q = (r0.params, r0.assign, r0.body) := hq.trans hlc.symm
  subst hqq
  have hlw : l < w.heap.size := hH.lt PID l hol
  have hrow0 := hH.row PID (.box false (.tup [.int .i64 key] :: tm)) (by simp [zipIds, lookup])
  have hSl : ¬ S l := hrow0.free rfl l hol
  have hBl : ¬ B l := hrow0.place.2 l hol
  have hPR : PID < RID := by decide
  obtain ⟨B2, hB2⟩ : ∃ B2 : Ctx, B2 = ⟨fun b => B b ∨ b = l, β, []⟩ := ⟨_, rfl⟩
  have hB2l : B2 l := by rw [hB2]; exact .inr rfl
  have hB2B : ∀ b, B b → B2 b := fun b hb => by rw [hB2]; exact .inl hb
  have hzip : ((r0.params.zip args.toArray).foldl (fun t (p, v) => t.setIfInBounds p v) r0.tmps).toList = (r0.params.toList.zip args).foldl (fun t p => t.set p.1 p.2) us := by
    rw [← htm, ← foldl_sets, ← Array.foldl_toList]
    simp
  have hRel : Rel w S B2 β (fun id => if id = PID then none else og id) (St.mk ((r0.params.toList.zip avs).foldl (fun t p => t.set p.1 p.2) tm) (zipIds (PID + 1) rows) (List.range' PID (rows.length + 1))) { tmps := (r0.params.zip args.toArray).foldl (fun t (p, v) => t.setIfInBounds p v) r0.tmps, defers := [] } := by
    refine ⟨?_, by rw [hB2], fun id x hx => ?_, fun id id' g hg hg' => ?_, fun id g hg => ?_, fun id x hx => ?_, hH.one, hH.Slt, fun b hb => ?_, fun id x _ hx => by rw [hB2]; exact hx⟩
    · show VRels w S β _ ((r0.params.zip args.toArray).foldl (fun t (p, v) => t.setIfInBounds p v) r0.tmps).toList
      rw [hzip]
      exact sets_rel _ hv htv
    · obtain ⟨hne, hx⟩ := lookup_zip1 (x := .box false (.tup [.int .i64 key] :: tm)) hx
      rw [if_neg hne]
      refine (hH.row id x hx).monoB fun g hg hn hb => ?_
      rw [hB2] at hb
      rcases hb with hb | hb
      · exact hn hb
      · subst hb; exact hne (hH.inj id PID _ hg hol)
    · by_cases e : id = PID
      · rw [if_pos e] at hg; cases hg
      · by_cases e' : id' = PID
        · rw [if_pos e'] at hg'; cases hg'
        · rw [if_neg e] at hg; rw [if_neg e'] at hg'; exact hH.inj id id' g hg hg'
    · by_cases e : id = PID
      · rw [if_pos e] at hg; cases hg
      · rw [if_neg e] at hg; exact hH.lt id g hg
    · obtain ⟨h1, h2⟩ := hdom id x hx
      show id ∈ List.range' PID (rows.length + 1)
      rw [List.mem_range'_1]
      exact ⟨h1, h2⟩
    · rw [hB2] at hb
      rcases hb with hb | hb
      · exact hH.Ble b hb
      · omega
  have hG2 : Glb B2 w := hG.mono hB2B
  have hX : RelX w S B2 (St.mk ((r0.params.toList.zip avs).foldl (fun t p => t.set p.1 p.2) tm) (zipIds (PID + 1) rows) (List.range' PID (rows.length + 1))) { tmps := (r0.params.zip args.toArray).foldl (fun t (p, v) => t.setIfInBounds p v) r0.tmps, defers := [] } w :=
    ⟨S, β, _, hRel, ⟨KeptG.refl hG2, fun _ h => .inl h, fun _ h => h⟩⟩
  refine roundIn_of_wpIn (F := Fence.wide) (n := 0) trivial ?_
  refine evC_sound (R := some l) hΓ hD r0.assign hKa (RngOK.no hr _) ρ _ _ r _ w _ he hX.e fun e st1 a1 w1 he1 hx1 => ?_
  cases e with
  | ret => cases he1
  | exit i => cases he1
  | normal =>
  obtain ⟨wa, Sa, Ba, hEa, S1, β1, og1, hR1, hO1⟩ := hx1
  have hBal : Ba l := hEa.up l hB2l
  have hw1l : w1.heap[l]? = some (.loop r0) := (hO1.bel.block l hBal).trans ((hEa.kept.block l hB2l).trans hhl)
  have hS1l : ¬ S1 l := fun hs => (hO1.sin l hs).elim (fun h => (hEa.sin l h).elim hSl fun h => h hB2l) fun h => h hBal
  have hk1 : Kept B w w1 := Kept.trans (b := wa) ⟨hEa.kept.os, hEa.kept.tape, hEa.kept.output, hEa.kept.size, fun b hb => hEa.kept.block b (hB2B b hb)⟩ ⟨hO1.bel.os, hO1.bel.tape, hO1.bel.output, hO1.bel.size, fun b hb => hO1.bel.block b (hEa.up b (hB2B b hb))⟩
  have hk2 : Kept B w (w1.putObj l (.loop { r0 with state := .busy })) := hk1.putBlock _ hBl
  have hR2 : Rel (w1.putObj l (.loop { r0 with state := .busy })) S1 Ba β1 og1 st1 a1 := hR1.putBlock _ (fun id x hx hg => (hR1.row id x hx).place.2 l hg hBal) hS1l
  have hGa : Glb Ba (w1.putObj l (.loop { r0 with state := .busy })) := fun w' hk => hG w' (hk2.trans ⟨hk.os, hk.tape, hk.output, hk.size, fun b hb => hk.block b (hEa.up b (hB2B b hb))⟩)
  have hX2 : RelX (w1.putObj l (.loop { r0 with state := .busy })) S1 Ba st1 a1 (w1.putObj l (.loop { r0 with state := .busy })) := ⟨S1, β1, og1, hR2, ⟨KeptG.refl hGa, fun _ h => .inl h, fun _ h => h⟩⟩
  refine ⟨_, run_beginRound hw1l hst, ?_⟩
  obtain ⟨w2, hw2⟩ : ∃ w2, w2 = w1.putObj l (.loop { r0 with state := .busy }) := ⟨_, rfl⟩
  rw [← hw2] at hk2 hR2 hGa hX2 ⊢
  refine evC_sound (R := some l) hΓ hD r0.body hKb (RngOK.no hr _) ρ _ _ r _ w2 _ he1 hX2.e fun e st2 a2 w3 he2 hx2 => ?_
  cases e with
  | ret => cases he2
  | exit i => cases he2
  | normal =>
  obtain ⟨wb, Sb, Bb, hEb, S3, β3, og3, hR3, hO3⟩ := hx2
  have hBbl : Bb l := hEb.up l hBal
  have hl1 : l < w1.heap.size := (Array.getElem?_eq_some_iff.1 hw1l).1
  have hw2l : w2.heap[l]? = some (.loop { r0 with state := .busy }) := by rw [hw2]; exact World.putObj_heap_same hl1
  have hw3l : w3.heap[l]? = some (.loop { r0 with state := .busy }) := (hO3.bel.block l hBbl).trans ((hEb.kept.block l hBal).trans hw2l)
  have hl3 : l < w3.heap.size := (Array.getElem?_eq_some_iff.1 hw3l).1
  have hbet : Bb.bet = β := by rw [hEb.bet, hEa.bet, hB2]
  have hdomR : ∀ id x, Bb.bet id = some x → id < RID := fun id x hx => by
    rw [hbet] at hx
    have := (hdom id x hx).2
    have : PID + 1000000 < RID := by decide
    omega
  obtain ⟨u, hrun2, v, prow, nrow, S', β', og', hk', hA⟩ := finishX_sound (w := w3) (np := rows.length + 1) ⟨S3, β3, og3, hR3, hO3⟩ hdomR he2
  refine ⟨_, _, run_endRound none hw3l, .bool true, .bool true, _, _, S', fun id => if id < RID then β id else β' id, fun id => @ite _ (id = PID) _ (some l) (@ite _ ((∃ j x, id = PID + j ∧ prow[j]? = some (some x)) ∨ ∃ j x, id = RID + j ∧ nrow[j]? = some x) (Classical.propDecidable _) (og' id) none), rfl, hk', ?_⟩
  -- what has stayed
  obtain ⟨w4, hw4⟩ : ∃ w4, w4 = w3.putObj l (.loop { ({ r0 with state := .busy } : Go.Loop) with state := .ready, pending := none }) := ⟨_, rfl⟩
  have hw4l : w4.heap[l]? = some (.loop { ({ r0 with state := .busy } : Go.Loop) with state := .ready, pending := none }) := by rw [hw4]; exact World.putObj_heap_same hl3
  have hoth : ∀ b, b ≠ l → w4.heap[b]? = w3.heap[b]? := fun b hb => by rw [hw4]; exact World.putObj_heap_other hb
  have hsz4 : w4.heap.size = w3.heap.size := by rw [hw4]; exact World.putObj_size
  have hup : ∀ b, B b → Bb b := fun b hb => hEb.up b (hEa.up b (hB2B b hb))
  have hk3 : Kept B w w3 := hk2.trans (Kept.trans (b := wb) ⟨hEb.kept.os, hEb.kept.tape, hEb.kept.output, hEb.kept.size, fun b hb => hEb.kept.block b (hEa.up b (hB2B b hb))⟩ ⟨hA.kept.os, hA.kept.tape, hA.kept.output, hA.kept.size, fun b hb => hA.kept.block b (hup b hb)⟩)
  have hk4 : Kept B w w4 := by rw [hw4]; exact hk3.putBlock _ hBl
  have hsubA : ∀ b, S b → S' b := fun b hb => hA.sub b (hEb.sub b (hO1.sub b (hEa.sub b hb)))
  have hsinA : ∀ b, S' b → S b ∨ ¬ B2 b := fun b hb => (hA.sin b hb).elim (fun h => (hEb.sin b h).elim (fun h => (hO1.sin b h).elim (hEa.sin b) fun h => .inr fun h' => h (hEa.up b h')) fun h => .inr fun h' => h (hEa.up b h')) fun h => .inr fun h' => h (hEb.up b (hEa.up b h'))
  have hS'l : ¬ S' l := fun hs => (hsinA l hs).elim hSl fun h => h hB2l
  have hβ1 : ∀ id x, β' id = some x → (if id < RID then β id else β' id) = some x := fun id x hx => by
    by_cases hlt : id < RID
    · rw [if_pos hlt, ← hbet]; exact hA.bet id x hlt hx
    · rw [if_neg hlt]; exact hx
  have hβ2 : ∀ id x, β id = some x → (if id < RID then β id else β' id) = some x := fun id x hx => by
    have h1 := (hdom id x hx).2
    have h2 : PID + 1000000 < RID := by decide
    rw [if_pos (by omega)]; exact hx
  have hwS : ∀ b, S b → w4.heap[b]? = w.heap[b]? := fun b hb => hk4.block b (hSB b hb)
  have hwS' : ∀ b, S' b → w4.heap[b]? = w3.heap[b]? := fun b hb => hoth b fun e => hS'l (by rw [← e]; exact hb)
  have hplP : ∀ j x, prow[j]? = some (some x) → ∀ g, og' (PID + j) = some g → g ≠ l := fun j x hx g hg e => (hA.prow j x hx).place.2 g hg (by rw [e]; exact hBbl)
  have hplN : ∀ j x, nrow[j]? = some x → ∀ g, og' (RID + j) = some g → g ≠ l := fun j x hx g hg e => (hA.nrow j x hx).place.2 g hg (by rw [e]; exact hBbl)
  obtain ⟨og2, hog2⟩ : ∃ og2 : Nat → Option Nat, og2 = fun id => @ite _ (id = PID) _ (some l) (@ite _ ((∃ j x, id = PID + j ∧ prow[j]? = some (some x)) ∨ ∃ j x, id = RID + j ∧ nrow[j]? = some x) (Classical.propDecidable _) (og' id) none) := ⟨_, rfl⟩
  rw [← hog2]
  suffices hfin : After w S B β (some (.box false (.tup [.int .i64 key] :: tm)) :: prow.tail) nrow (.bool true) (.bool true) w4 S' (fun id => if id < RID then β id else β' id) og2 by
    rw [hw4] at hfin
    exact hfin
  have hogP : og2 PID = some l := by rw [hog2]; simp
  have hogp : ∀ j x, prow[j + 1]? = some (some x) → og2 (PID + (j + 1)) = og' (PID + (j + 1)) := fun j x hx => by
    rw [hog2]
    show @ite _ (PID + (j + 1) = PID) _ _ _ = _
    rw [if_neg (by omega), if_pos (.inl ⟨j + 1, x, rfl, hx⟩)]
  have hogn : ∀ j x, nrow[j]? = some x → og2 (RID + j) = og' (RID + j) := fun j x hx => by
    rw [hog2]
    show @ite _ (RID + j = PID) _ _ _ = _
    rw [if_neg (by omega), if_pos (.inr ⟨j, x, rfl, hx⟩)]
  have hcl : ∀ id g, og2 id = some g → (id = PID ∧ g = l) ∨ (id ≠ PID ∧ g ≠ l ∧ og' id = some g) := fun id g hg => by
    rw [hog2] at hg
    by_cases e : id = PID
    · have hg : @ite _ (id = PID) _ (some l) _ = some g := hg
      rw [if_pos e] at hg
      cases hg
      exact .inl ⟨e, rfl⟩
    · have hg : @ite _ (id = PID) _ (some l) _ = some g := hg
      rw [if_neg e] at hg
      split at hg
      · rename_i hc
        refine .inr ⟨e, ?_, hg⟩
        rcases hc with ⟨j, x, rfl, hx⟩ | ⟨j, x, rfl, hx⟩
        · exact hplP j x hx g hg
        · exact hplN j x hx g hg
      · cases hg
  refine ⟨hk4, hsubA, fun b hb => (hsinA b hb).imp id fun h hb => h (hB2B b hb), .bool _ _, fun j x hx => ?_, fun j x hx => ?_, fun id id' g hg hg' => ?_, fun id g hg => ?_, fun id x hx => ?_, fun b hb => by rw [hsz4]; exact hA.Slt b hb, fun id x hlt hx => by have hx : (if id < RID then β id else β' id) = some x := hx; rw [if_pos hlt] at hx; exact hx⟩
  · cases j with
    | zero =>
      simp only [List.getElem?_cons_zero, Option.some.injEq] at hx
      subst hx
      refine ⟨l, .tuple #[.int .i64 key] :: us, .func (.yield l) #[] #[], hogP, hβ2 _ _ hbl, .inr (.inl ⟨_, key, us, hw4l, rfl, rfl, hlc, rfl, htm, rfl⟩), VRels.cons ?_ (htv.mono hsubA hwS hβ2), fun _ => hS'l, (fun h => by cases h), hBl⟩
      exact .tup _ [.int .i64 key] [.int .i64 key] rfl fun j c u hc hu => by
        cases j with
        | zero => simp at hc hu; subst hc; subst hu; exact .int _ _ _
        | succ j => simp at hc
    | succ j =>
      have hx' : prow[j + 1]? = some (some x) := by
        rw [List.getElem?_cons_succ, List.getElem?_tail] at hx
        exact hx
      rw [hogp j x hx']
      exact ((hA.prow (j + 1) x hx').monoB (fun g _ hn hb => hn (hup g hb))).keep hβ1 (fun _ h => h) (fun _ _ h => h) hwS' (fun g hg => hoth g (hplP (j + 1) x hx' g hg))
  · rw [hogn j x hx]
    exact ((hA.nrow j x hx).monoB (fun g _ hn hb => hn (hup g hb))).keep hβ1 (fun _ h => h) (fun _ _ h => h) hwS' (fun g hg => hoth g (hplN j x hx g hg))
  · rcases hcl id g hg with ⟨rfl, rfl⟩ | ⟨h1, h2, h3⟩ <;> rcases hcl id' g hg' with ⟨rfl, h5⟩ | ⟨h4, h5, h6⟩
    · rfl
    · exact absurd rfl h5
    · exact absurd h5 h2
    · exact hA.inj id id' g h3 h6
  · rw [hsz4]
    rcases hcl id g hg with ⟨_, rfl⟩ | ⟨_, _, h3⟩
    · exact hl3
    · exact hA.lt id g h3
  · have hx : (if id < RID then β id else β' id) = some x := hx
    split at hx
    · exact hH.one id x hx
    · exact hA.one id x hx

theorem yok_of (hΓ : GOK P Γ) (hD : DrawOK P Γ) (hr : Γ.rng = none) {key : Int} {q : Array Tmp × Code × Code} (hq : q = loopCode key) (hKa : KOK P Γ K q.2.1) (hKb : KOK P Γ K q.2.2) {F : SummX}
    (hF : ∀ ρ avs rows k r, F ρ avs rows k = some r → evY P Γ K key q ρ avs rows k = some r) : YOK P key F := by
  intro ρ w S B β og avs tm rows args k r l r0 us hH hSB hdom hv hbl hol hhl hst hpd hlc htm htv hrun
  obtain ⟨hSB, hG⟩ := hSB
  have he := hF _ _ _ _ _ hrun
  unfold evY at he
  simp only [beq_self_eq_true, Bool.true_and] at he
  split at he
  · rename_i hsm
    have hsm := Nat.le_of_ble_eq_true hsm
    rw [St.force_eq] at he
    exact yok_core hΓ hD hr hq hKa hKb hH ⟨hSB, hG⟩ hdom hv hbl hol hhl hst hpd hlc htm htv hsm he
  · cases he
end
end Go.Ev
