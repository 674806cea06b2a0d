/-
  Small functions of greylists.
-/
import Derived.Test.YtbkokbmodpkamaaTr
import Derived.Test.YtbkokbmodpkamaaOrd
import Derived.Test.YtbkokbmodpkamaaSrt
namespace Go.Proofs.Ytbkokbmodpkamaa
open Go.Ev

abbrev sE : Sh := .agg [.str, .str, .str, .int .i64, .int .i64, .bool]
noncomputable def G0 : Env := { pure := [] }
theorem g0 : GOK Try.prog G0 := GOK.empty
def inR (n a b : Int) : Bool := decide (a ≤ n) && decide (n ≤ b)
theorem inR_spec {n a b : Int} (h : inR n a b = true) : a ≤ n ∧ n ≤ b := by simpa [inR] using h
theorem inR_no {n a b : Int} (h : inR n a b = false) : n < a ∨ b < n := by
  simp only [inR, Bool.and_eq_false_iff, decide_eq_false_iff_not] at h
  omega
theorem inR_of {n a b : Int} (h : a ≤ n) (h' : n ≤ b) : inR n a b = true := by simp [inR, h, h']
theorem inR_br {α : Type} (n a b : Int) (k : AV → α) : (bif decide (n ≥ a) then k (.bool (decide (n ≤ b))) else k (.bool false)) = k (.bool (inR n a b)) := by
  unfold inR
  rw [show decide (n ≥ a) = decide (a ≤ n) from rfl]
  cases decide (a ≤ n) <;> rfl
def F13 : List AV → Tr AV
  | [.int .i64 n, .int .i64 a, .int .i64 b] => .leaf (.bool (inR n a b))
  | _ => .no
theorem ok13 : SumOK Try.prog 13 (ofT F13) ∧ SNat (ofT F13) := by
  refine fn0 g0 Try.func13 (by kernel_rfl) fun ρ avs k r h => ?_
  unfold F13 at h
  split at h
  · rename_i n a b
    have hk := h
    refine Eq.trans (b := bif decide (a ≤ n) then k (AV.bool (decide (n ≤ b))) else k (AV.bool false)) (by kernel_rfl) ?_
    rw [← hk]
    exact inR_br n a b k
  · cases h
def tmB (n : Int) : Bool := inR n (-68719476736) 68719476736
def F18 : List AV → Tr AV
  | [.int .i64 n] => .leaf (.bool (tmB n))
  | _ => .no
theorem ok18 : SumOK Try.prog 18 (ofT F18) ∧ SNat (ofT F18) := by
  refine fn0 g0 Try.func18 (by kernel_rfl) fun ρ avs k r h => ?_
  unfold F18 at h
  split at h
  · rename_i n
    have hk := h
    refine Eq.trans (b := bif decide (n ≥ (-68719476736 : Int)) then k (AV.bool (decide (n ≤ (68719476736 : Int)))) else k (AV.bool false)) (by kernel_rfl) ?_
    rw [← hk]
    exact inR_br n _ _ k
  · cases h
def nm3 (h f t : List UInt8) : Bool := inR h.length 1 4000 && (inR f.length 0 4000 && inR t.length 1 4000)
theorem nm3_br {α : Type} (h f t : List UInt8) (k : AV → α) : (bif !h == [] then bif !t == [] then bif decide ((h.length : Int) ≤ 4000) then bif decide ((f.length : Int) ≤ 4000) then k (.bool (decide ((t.length : Int) ≤ 4000))) else k (.bool false) else k (.bool false) else k (.bool false) else k (.bool false)) = k (.bool (nm3 h f t)) := by
  have e : ∀ x : List UInt8, (!x == []) = decide ((1 : Int) ≤ x.length) := fun x => by
    cases x with
    | nil => rfl
    | cons a l => rw [decide_eq_true (by simp; omega)]; rfl
  have e0 : decide ((0 : Int) ≤ f.length) = true := decide_eq_true (by omega)
  rw [e h, e t]
  unfold nm3 inR
  rw [e0]
  cases decide ((1 : Int) ≤ h.length) <;> cases decide ((1 : Int) ≤ t.length) <;> cases decide ((h.length : Int) ≤ 4000) <;> cases decide ((f.length : Int) ≤ 4000) <;> rfl
def F16 : List AV → Tr AV
  | [.str hh, .str f, .str t] => .leaf (.bool (nm3 hh f t))
  | _ => .no
theorem ok16 : SumOK Try.prog 16 (ofT F16) ∧ SNat (ofT F16) := by
  refine fn0 g0 Try.func16 (by kernel_rfl) fun ρ avs k r h => ?_
  unfold F16 at h
  split at h
  · rename_i hh f t
    have hk := h
    refine Eq.trans (b := bif !hh == ([] : List UInt8) then bif !t == ([] : List UInt8) then bif decide ((↑hh.length : Int) ≤ (4000 : Int)) then bif decide ((↑f.length : Int) ≤ (4000 : Int)) then k (AV.bool (decide ((↑t.length : Int) ≤ (4000 : Int)))) else k (AV.bool false) else k (AV.bool false) else k (AV.bool false) else k (AV.bool false)) (by kernel_rfl) ?_
    rw [← hk]
    exact nm3_br hh f t k
  · cases h
noncomputable def G1 : Env := { pure := [(16, ofT F16), (18, ofT F18), (17, evF Try.prog G0 [] Try.f17), (23, evF Try.prog G0 [] Try.f23), (15, evF Try.prog G0 [] Try.f15), (28, evF Try.prog G0 [] Try.f28), (29, evF Try.prog { pure := [(13, ofT F13)] } [] Try.f29), (13, ofT F13)] }
theorem g1 : GOK Try.prog G1 := GOK.also (GOK.also (GOK.also (GOK.also (GOK.also (GOK.also (GOK.also (GOK.also g0 ok13) (inl (GOK.also g0 ok13) Try.func29 (by kernel_rfl))) (inl g0 Try.func28 (by kernel_rfl))) (inl g0 Try.func15 (by kernel_rfl))) (inl g0 Try.func23 (by kernel_rfl))) (inl g0 Try.func17 (by kernel_rfl))) ok18) ok16
def F27 : List AV → Tr AV
  | [.agg [.str hh, .str f, .str t, .int .i64 a, .int .i64 l, .bool kn]] => .leaf (.bool (nm3 hh f t))
  | _ => .no
theorem ok27 : SumOK Try.prog 27 (ofT F27) ∧ SNat (ofT F27) := by
  refine fn0 g1 Try.func27 (by kernel_rfl) fun ρ avs k r h => ?_
  unfold F27 at h
  split at h
  · rename_i hh f t a l kn
    have hk := h
    refine Eq.trans (b := bif inR (↑hh.length : Int) (1 : Int) (4000 : Int) then bif inR (↑f.length : Int) (0 : Int) (4000 : Int) then k (AV.bool (inR (↑t.length : Int) (1 : Int) (4000 : Int))) else k (AV.bool false) else k (AV.bool false)) (by kernel_rfl) ?_
    rw [← hk]
    unfold nm3
    cases inR (hh.length : Int) 1 4000 <;> cases inR (f.length : Int) 0 4000 <;> rfl
  · cases h
abbrev K3 := List UInt8 × List UInt8 × List UInt8
def k3lt (a b : K3) : Bool := bif a.1 == b.1 then (bif a.2.1 == b.2.1 then blt a.2.2 b.2.2 else blt a.2.1 b.2.1) else blt a.1 b.1
def k3eq (a b : K3) : Bool := a.1 == b.1 && (a.2.1 == b.2.1 && a.2.2 == b.2.2)
theorem k3eq_iff {a b : K3} : k3eq a b = true ↔ a = b := by
  obtain ⟨a1, a2, a3⟩ := a
  obtain ⟨b1, b2, b3⟩ := b
  simp [k3eq]
theorem k3O : SO k3lt := by
  refine ⟨fun a => ?_, fun {a b c} h1 h2 => ?_, fun {a b} h1 h2 => ?_⟩
  · simp [k3lt, blt_irrefl]
  · obtain ⟨a1, a2, a3⟩ := a
    obtain ⟨b1, b2, b3⟩ := b
    obtain ⟨c1, c2, c3⟩ := c
    simp only [k3lt, cond_eq_ite, beq_iff_eq] at *
    by_cases e1 : a1 = b1
    · subst e1
      by_cases e2 : a1 = c1
      · subst e2
        rw [if_pos rfl] at h1 h2 ⊢
        by_cases e3 : a2 = b2
        · subst e3
          by_cases e4 : a2 = c2
          · subst e4
            rw [if_pos rfl] at h1 h2 ⊢
            exact blt_trans h1 h2
          · rw [if_neg e4] at h2 ⊢; exact h2
        · rw [if_neg e3] at h1
          by_cases e4 : b2 = c2
          · subst e4; rw [if_neg e3]; exact h1
          · rw [if_neg e4] at h2
            have := blt_trans h1 h2
            by_cases e5 : a2 = c2
            · subst e5; rw [blt_irrefl] at this; cases this
            · rw [if_neg e5]; exact this
      · rw [if_neg e2] at h2 ⊢; exact h2
    · rw [if_neg e1] at h1
      by_cases e2 : b1 = c1
      · subst e2; rw [if_neg e1]; exact h1
      · rw [if_neg e2] at h2
        have := blt_trans h1 h2
        by_cases e5 : a1 = c1
        · subst e5; rw [blt_irrefl] at this; cases this
        · rw [if_neg e5]; exact this
  · obtain ⟨a1, a2, a3⟩ := a
    obtain ⟨b1, b2, b3⟩ := b
    simp only [k3lt, cond_eq_ite, beq_iff_eq] at *
    by_cases e1 : a1 = b1
    · subst e1
      rw [if_pos rfl] at h1 h2
      by_cases e2 : a2 = b2
      · subst e2
        rw [if_pos rfl] at h1 h2
        rw [blt_total h1 h2]
      · rw [if_neg e2] at h1
        rw [if_neg fun h => e2 h.symm] at h2
        exact absurd (blt_total h1 h2) e2
    · rw [if_neg e1] at h1
      rw [if_neg fun h => e1 h.symm] at h2
      exact absurd (blt_total h1 h2) e1
def F14 : List AV → Tr AV
  | [.agg [.str hh, .str f, .str t, .int .i64 a, .int .i64 l, .bool kn], .agg [.str hh', .str f', .str t', .int .i64 a', .int .i64 l', .bool kn']] => .leaf (.bool (k3eq (hh, f, t) (hh', f', t')))
  | _ => .no
theorem ok14 : SumOK Try.prog 14 (ofT F14) ∧ SNat (ofT F14) := by
  refine fn0 g1 Try.func14 (by kernel_rfl) fun ρ avs k r h => ?_
  unfold F14 at h
  split at h
  · rename_i hh f t a l kn hh' f' t' a' l' kn'
    have hk := h
    refine Eq.trans (b := bif hh == hh' then bif f == f' then k (AV.bool (t == t')) else k (AV.bool false) else k (AV.bool false)) (by kernel_rfl) ?_
    rw [← hk]
    unfold k3eq
    dsimp only
    cases hh == hh' <;> cases f == f' <;> rfl
  · cases h
def F31 : List AV → Tr AV
  | [.agg [.str hh, .str f, .str t, .int .i64 a, .int .i64 l, .bool kn], .agg [.str hh', .str f', .str t', .int .i64 a', .int .i64 l', .bool kn']] => .leaf (.bool (k3lt (hh, f, t) (hh', f', t')))
  | _ => .no
theorem ok31 : SumOK Try.prog 31 (ofT F31) ∧ SNat (ofT F31) := by
  refine fn0 g1 Try.func31 (by kernel_rfl) fun ρ avs k r h => ?_
  unfold F31 at h
  split at h
  · rename_i hh f t a l kn hh' f' t' a' l' kn'
    have hk := h
    refine Eq.trans (b := bif !hh == hh' then k (AV.bool (Op.bytesLess hh hh')) else bif !f == f' then k (AV.bool (Op.bytesLess f f')) else k (AV.bool (Op.bytesLess t t'))) (by kernel_rfl) ?_
    rw [← hk]
    unfold k3lt
    dsimp only
    cases hh == hh' <;> cases f == f' <;> rfl
  · cases h
def oldP (a l : Int) (kn : Bool) (now : Int) : Bool := bif kn then decide (IntKind.i64.wrap (now - l) > 3110400) else decide (IntKind.i64.wrap (now - a) > 14400)
def oldR (a l : Int) (kn : Bool) (now : Int) : Bool := bif kn then decide (IntKind.i64.wrap (l + 3110400) < now) else decide (IntKind.i64.wrap (a + 14400) < now)
def F22 : List AV → Tr AV
  | [.agg [.str hh, .str f, .str t, .int .i64 a, .int .i64 l, .bool kn], .int .i64 now] => .leaf (.bool (oldP a l kn now))
  | _ => .no
theorem ok22 : SumOK Try.prog 22 (ofT F22) ∧ SNat (ofT F22) := by
  refine fn0 g1 Try.func22 (by kernel_rfl) fun ρ avs k r h => ?_
  unfold F22 at h
  split at h
  · rename_i hh f t a l kn now
    have hk := h
    refine Eq.trans (b := bif kn then k (AV.bool (decide (IntKind.i64.wrap (now - l) > (3110400 : Int)))) else k (AV.bool (decide (IntKind.i64.wrap (now - a) > (14400 : Int))))) (by kernel_rfl) ?_
    rw [← hk]
    unfold oldP
    cases kn <;> rfl
  · cases h
def F30 : List AV → Tr AV
  | [.agg [.str hh, .str f, .str t, .int .i64 a, .int .i64 l, .bool kn], .int .i64 now] => .leaf (.bool (oldR a l kn now))
  | _ => .no
theorem ok30 : SumOK Try.prog 30 (ofT F30) ∧ SNat (ofT F30) := by
  refine fn0 g1 Try.func30 (by kernel_rfl) fun ρ avs k r h => ?_
  unfold F30 at h
  split at h
  · rename_i hh f t a l kn now
    have hk := h
    refine Eq.trans (b := bif kn then k (AV.bool (decide (IntKind.i64.wrap (l + (3110400 : Int)) < now))) else k (AV.bool (decide (IntKind.i64.wrap (a + (14400 : Int)) < now)))) (by kernel_rfl) ?_
    rw [← hk]
    unfold oldR
    cases kn <;> rfl
  · cases h
theorem old_eq {a l now : Int} (kn : Bool) (ha : tmB a = true) (hl : tmB l = true) (hn : tmB now = true) : oldP a l kn now = oldR a l kn now := by
  obtain ⟨a1, a2⟩ := inR_spec ha
  obtain ⟨l1, l2⟩ := inR_spec hl
  obtain ⟨n1, n2⟩ := inR_spec hn
  unfold oldP oldR
  rw [wrap_mid (now - l) (by omega) (by omega), wrap_mid (now - a) (by omega) (by omega), wrap_mid (l + 3110400) (by omega) (by omega), wrap_mid (a + 14400) (by omega) (by omega)]
  cases kn
  · exact decide_eq_decide.2 (by omega)
  · exact decide_eq_decide.2 (by omega)
end Go.Proofs.Ytbkokbmodpkamaa
