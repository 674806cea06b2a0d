/-
  ReputationOrderOfADay: for every input the call returns true, and the arguments read as before. No condition.
-/
import Derived.Test.YtbbmjifioimlmaaRpE
namespace Go.Proofs.Ytbbmjifioimlmaa
open Go.Ev

theorem law5 (es : List AV) (a b : List UInt8) (x y : Bool) (now : Int) (hs : small es.length = true) (hcan : ∀ e ∈ es, eS e = e) : evF Try.prog GL [] Try.f5 AV [.slv sS es, .str a, .str b, .bool x, .bool y, .int .i64 now] some = some (.bool true) := by
  refine Eq.trans (b := bif small es.length then bif small es.length then bif (noteF es a now).fst != (0 : Int) then some (AV.bool true) else bif (noteF es b now).fst != (0 : Int) then some (AV.bool true) else bif small (noteO es a x now).length then bif small (noteO es b y now).length then bif (noteF (noteO es a x now) b now).fst != (0 : Int) then bif ((noteF (noteO es a x now) b now).fst != (0 : Int)) == ((noteF (noteO es b y now) a now).fst != (0 : Int)) then some (AV.bool true) else some (AV.bool false) else bif (noteF (noteO es b y now) a now).fst != (0 : Int) then bif ((noteF (noteO es a x now) b now).fst != (0 : Int)) == ((noteF (noteO es b y now) a now).fst != (0 : Int)) then some (AV.bool true) else some (AV.bool false) else bif small (noteO (noteO es a x now) b y now).length then bif same (noteO (noteO es a x now) b y now) (noteO (noteO es b y now) a x now) then some (AV.bool true) else some (AV.bool false) else none else none else none else none else none) (by kernel_rfl) ?_
  rw [hs]
  cases ha : (noteF es a now).1 != 0
  · cases hb : (noteF es b now).1 != 0
    · obtain ⟨p1, p2, p3, p4⟩ := note_gd hcan x ha
      obtain ⟨q1, q2, q3, q4⟩ := note_gd hcan y hb
      obtain ⟨G, a1, t1, a2⟩ := findF_gd hcan (noteF_find ha)
      obtain ⟨_, b1, _, b2⟩ := findF_gd hcan (noteF_find hb)
      have lp := lk_note hcan (junk := x) ha
      have lq := lk_note hcan (junk := y) hb
      have fp : findF (noteO es a x now) b now = (0, 0) := find0 p2 b1 t1 fun e he => by
        rw [lp] at he
        by_cases hab : b = a
        · rw [if_pos hab] at he; injection he with he; rw [← he, newV_d]; exact Int.le_refl _
        · rw [if_neg hab] at he; exact b2 e he
      have fq : findF (noteO es b y now) a now = (0, 0) := find0 q2 a1 t1 fun e he => by
        rw [lq] at he
        by_cases hab : a = b
        · rw [if_pos hab] at he; injection he with he; rw [← he, newV_d]; exact Int.le_refl _
        · rw [if_neg hab] at he; exact a2 e he
      have same0 : ((lk nmOf b (noteO es a x now)).isNone && (((noteO es a x now).length : Int) == 300)) = ((lk nmOf a (noteO es b y now)).isNone && (((noteO es b y now).length : Int) == 300)) := by
        rw [lp, lq, p3, q3]
        by_cases hab : a = b
        · rw [if_pos hab, if_pos hab.symm]; rfl
        · rw [if_neg hab, if_neg fun h => hab h.symm]
          have hl := G.len
          cases ka : (lk nmOf a es).isNone <;> cases kb : (lk nmOf b es).isNone
          · rfl
          · have := q4 kb
            rw [show (((es.length + (bif false then 1 else 0) : Nat) : Int) == 300) = false from by simp; omega]
            rfl
          · have := p4 ka
            rw [show (((es.length + (bif false then 1 else 0) : Nat) : Int) == 300) = false from by simp; omega]
            rfl
          · rfl
      have np := noteF0 fp
      have nq := noteF0 fq
      rw [same0] at np
      have eqn : noteF (noteO es a x now) b now = noteF (noteO es b y now) a now := by rw [np, nq]
      rw [p2.small, q2.small, eqn]
      cases hc : (noteF (noteO es b y now) a now).1 != 0
      · have hc' : ((noteF (noteO es a x now) b now).1 != 0) = false := by rw [eqn]; exact hc
        obtain ⟨u1, u2, _, _⟩ := note_gd p2.can y hc'
        obtain ⟨v1, v2, _, _⟩ := note_gd q2.can x hc
        have lu := lk_note p2.can (junk := y) hc'
        have lv := lk_note q2.can (junk := x) hc
        have e : noteO (noteO es a x now) b y now = noteO (noteO es b y now) a x now := by
          refine srt_look_ext bltO u2.srt v2.srt fun s => ?_
          rw [lu s, lv s, lp b, lp s, lq a, lq s]
          by_cases hab : a = b
          · subst hab
            rw [if_pos rfl, if_pos rfl]
            by_cases hsa : s = a
            · subst hsa
              rw [if_pos rfl, if_pos rfl]
              simp only [newV_eq, gV_some, bV_some]
              cases x <;> cases y <;> rfl
            · rw [if_neg hsa, if_neg hsa, if_neg hsa, if_neg hsa]
          · have hba : ¬ b = a := fun h => hab h.symm
            rw [if_neg hab, if_neg hba]
            by_cases hsa : s = a
            · subst hsa
              rw [if_neg hab, if_pos rfl, if_pos rfl]
            · rw [if_neg hsa, if_neg hsa]
        rw [u2.small, e, same_self]
        rfl
      · rfl
    · rfl
  · rfl
theorem ok5 : SumOK Try.prog 5 (evF Try.prog GL [] Try.f5) := sum0 gl Try.func5 (by kernel_rfl) fun _ _ _ _ h => h

theorem spec5 (H : Type) : ∀ ds : List (DataW H), ds.length = Try.f5.params.size → Rows.reputationOrderOfADaySpec.fn H ds = { results := [.lit (.bool true)], args := ds }
  | [_, _, _, _, _, _], _ => rfl

set_option maxRecDepth 100000 in
theorem lifted5 (os : Os) (started : os.Started) (H : Type) (enc : TypeId × Value → H) :
    ReturnsInHanded {} Try.checked os 5 .any (Rows.reputationOrderOfADaySpec.pre6 enc Try.prog Try.f5 Rows.reputationOrderOfADayRow.domain false) (Rows.reputationOrderOfADaySpec.post enc Try.prog Try.f5 false true false false) := by
  refine returnsInHanded_of_change (C := Try.checked) own started (by kernel_rfl) Try.func5
    (ChangeSpec.witness6 (enc := enc) (C := Try.checked) false ⟨#[], #[.slice none 0 0, .string ⟨#[]⟩, .string ⟨#[]⟩, .bool false, .bool false, .int .i64 0], []⟩ 8 (by kernel_rfl) (by kernel_rfl) (by kernel_rfl) (by kernel_rfl)) ?_
  intro W base args ds gs before hval hW _ _
  refine contract_of (bk H) (n := 12) (tb := 4) (F := evF Try.prog GL [] Try.f5) (by kernel_rfl) (by kernel_rfl) (by kernel_rfl) rfl (by kernel_rfl) (by kernel_rfl) (spec5 H) (ok5) (fun avs hg => ?_) hval hW
  have hh : hasAll [.slice sS, .str, .str, .bool, .bool, .int .i64] avs = true := hg.has
  obtain ⟨v0, cs, rfl, h0, hh⟩ := hasAll_cons hh
  obtain ⟨v1, cs, rfl, h1, hh⟩ := hasAll_cons hh
  obtain ⟨v2, cs, rfl, h2, hh⟩ := hasAll_cons hh
  obtain ⟨v3, cs, rfl, h3, hh⟩ := hasAll_cons hh
  obtain ⟨v4, cs, rfl, h4, hh⟩ := hasAll_cons hh
  obtain ⟨v5, cs, rfl, h5, hh⟩ := hasAll_cons hh
  obtain rfl := hasAll_nil hh
  obtain ⟨es, rfl, hs, hcan⟩ := open_senders h0 (hg.fit _ (by simp))
  obtain ⟨a, rfl⟩ := has_str h1
  obtain ⟨b, rfl⟩ := has_str h2
  obtain ⟨x, rfl⟩ := has_bool h3
  obtain ⟨y, rfl⟩ := has_bool h4
  obtain ⟨now, rfl⟩ := has_int h5
  exact law5 es a b x y now hs hcan

theorem order_of_a_day : Rows.ReputationOrderOfADaySaid :=
  OpenClaim.holds_of_wide 5 Try.f5 rfl rfl rfl rfl rfl rfl rfl ⟨rfl, rfl, rfl, rfl, rfl⟩ rfl rfl rfl rfl rfl (by kernel_rfl) Try.func5 (by kernel_rfl)
    (of_decide_eq_true (by kernel_rfl)) (by unfold Func.isWrapper; first | (rw [if_pos (by decide +kernel)]; kernel_rfl) | (rw [if_neg (by decide +kernel)]; exact ⟨rfl, rfl⟩))
    (fun os started H enc _ => lifted5 os started H enc)

end Go.Proofs.Ytbbmjifioimlmaa
