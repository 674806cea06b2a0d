/-
  Calls that the model answers itself: two strings compared, two slices that do not overlap.
-/
import Derived.Test.YtpgaobdgohlegaaEvW
import Derived.Lib.Bytealg
import Derived.Lib.Overlaps
namespace Go.Ev
open Go.RowKit

/-- What strings.Compare returns. -/
def cmpS (a b : List UInt8) : Int := Lib.compareBytes a b
def Fcmp : Summ := fun _ avs k => match avs with
  | [.str a, .str b] => k (.int .i64 (cmpS a b))
  | _ => none
theorem snat_cmp : SNat Fcmp := fun ρ avs k => by unfold Fcmp; split <;> rfl
theorem noBody {P : Program} {f : FuncId} {fn : Func} (hfn : P.funcs[f]? = some fn) (hb : fn.body.isNone = true) : hasBody P f = false := by
  unfold hasBody
  rw [hfn]
  cases h : fn.body <;> simp_all
theorem cmp_ok {P : Program} {f : FuncId} {fn : Func} (hfn : P.funcs[f]? = some fn) (hname : (fn.name == "runtime.NumGoroutine") = false) (hb : fn.body.isNone = true) (hn : Extern.findNext fn = none) (he : Extern.find fn = some Extern.BytealgCompare.compare) : SumOK P f Fcmp ∧ SNat Fcmp := by
  refine ⟨fun ρ w S avs args k r hS hv h => ?_, snat_cmp⟩
  unfold Fcmp at h
  split at h
  · rename_i a b
    obtain ⟨v, vs, rfl, h1, hv⟩ := hv.inv
    obtain ⟨u, us, rfl, h2, hv⟩ := hv.inv
    obtain rfl := hv.inv_nil
    rw [h1.str_inv, h2.str_inv]
    refine .inr ⟨noBody hfn hb, .int .i64 (cmpS a b), w, ?_, ⟨_, _, fun _ => False, rfl, h, Below.refl _ _, fun _ h => h.elim, fun _ h => h.elim, .int _ _ _⟩⟩
    rw [run_callFunc_extern hfn hname hb hn he]
    show ((Extern.BytealgCompare.compare #[.string ⟨a.toArray⟩, .string ⟨b.toArray⟩]).run P w).andThen _ = _
    rw [Lib.run_compareString]
    rfl
  · cases h

/-- Two slices of the caller's own, in two rows. -/
def Fover : SummX := fun _ avs rows k => match avs, rows with
  | [.own p, .sub q lo len], [.arr false s e es sp, .arr false s' e' es' sp'] =>
    bif Nat.beq p PID && (Nat.beq q (PID + 1) && decide (lo + len ≤ es'.length)) then k (.bool false) [some (.arr false s e es sp), some (.arr false s' e' es' sp')] [] else none
  | _, _ => none
theorem xnat_over : XNat Fover := fun ρ avs rows k => by
  unfold Fover
  split
  · rename_i p q lo len s e es sp s' e' es' sp'
    generalize (Nat.beq p PID && (Nat.beq q (PID + 1) && decide (lo + len ≤ es'.length))) = c
    cases c <;> rfl
  · rfl
theorem run_overlaps_zero {P : Program} (w : World) (tS tR e : TypeId) (ht : P.underlying tS = some (.slice e)) (size : Nat) (hz : ∀ w, (Go.sizeOf e).run P w = .ok size w)
    (a b : Option Addr) (la ca lb cb : Nat) (h0 : la = 0 ∨ lb = 0) :
    (Extern.SlicesOverlaps.overlaps #[tS, tS] #[tR] #[.slice a la ca, .slice b lb cb]).run P w = .ok (.bool false) w := by
  have h0' : la = 0 ∨ lb = 0 ∨ size = 0 := h0.elim .inl fun h => .inr (.inl h)
  change Sem.run P (α := Value) (do
    let some t := (#[tS, tS] : Array TypeId)[0]? | stuck "slices.overlaps: no parameter types"
    let .slice elem ← underlying t | stuck "slices.overlaps: slice type expected"
    let size ← sizeOf elem
    match a, b with
    | some a, some b =>
      if la = 0 ∨ lb = 0 ∨ size = 0 then pure (Value.bool false)
      else if a.block != b.block && (← frozen a) && (← frozen b) then unsupported .addressObserved
      else do
        if a.block != b.block then do
          noView a; noView b
          if ← mayBeOne a b then return Value.bool ((← choose (.extern "sameAddr.stringBytes" 2)) == 1)
        pure (Value.bool (a.block == b.block && a.off < b.off + lb * size && b.off < a.off + la * size))
    | _, _ => pure (Value.bool false)) w = _
  cases a with
  | none => simp [run_underlying ht, hz]
  | some a =>
    cases b with
    | none => simp [run_underlying ht, hz]
    | some b => simp [run_underlying ht, hz, h0']
theorem over_ok {P : Program} {f : FuncId} {fn : Func} {tS tR e0 : TypeId} {i : TypeInfo} (hfn : P.funcs[f]? = some fn) (hname : (fn.name == "runtime.NumGoroutine") = false) (hb : fn.body.isNone = true) (hn : Extern.findNext fn = none) (he : Extern.find fn = some (Extern.SlicesOverlaps.overlaps #[tS, tS] #[tR]))
    (ht : P.underlying tS = some (.slice e0)) (hi : P.info? e0 = some i) : XOK P f Fover ∧ XNat Fover := by
  refine ⟨fun ρ w S B β og avs rows args k r hH hSB hdom hv h => ?_, xnat_over⟩
  unfold Fover at h
  split at h
  · rename_i p q lo len s e es sp s' e' es' sp'
    obtain ⟨hc, hk⟩ := bif_some h
    clear h
    simp only [Bool.and_eq_true, decide_eq_true_eq] at hc
    obtain ⟨hp, hq, hll⟩ := hc
    obtain rfl := Nat.eq_of_beq_eq_true hp
    obtain rfl := Nat.eq_of_beq_eq_true hq
    obtain ⟨v, vs, rfl, h1, hv⟩ := hv.inv
    obtain ⟨u, us, rfl, h2, hv⟩ := hv.inv
    obtain rfl := hv.inv_nil
    have hr0 := hH.row PID (.arr false s e es sp) (by simp [zipIds, lookup])
    have hr1 := hH.row (PID + 1) (.arr false s' e' es' sp') (by simp [zipIds, lookup])
    have hafter : After w S B β [some (.arr false s e es sp), some (.arr false s' e' es' sp')] [] (.bool false) (.bool false) w S β og :=
      ⟨Kept.refl _ _, fun _ h => h, fun _ h => .inl h, .bool _ _, fun j r hj => by
        match j with
        | 0 => simp at hj; subst hj; exact hr0
        | 1 => simp at hj; subst hj; exact hr1
        | j + 2 => simp at hj, fun j r hj => by simp at hj, hH.inj, hH.lt, hH.one, hH.Slt, fun _ _ _ h => h⟩
    refine .inr ⟨noBody hfn hb, .bool false, w, ?_, ⟨_, _, _, _, S, β, og, rfl, hk, hafter⟩⟩
    rw [run_callFunc_extern hfn hname hb hn he]
    have hz : ∀ w, (Go.sizeOf e0).run P w = .ok (P.cellsOf e0) w := fun w => run_sizeOf w hi
    have key : (Extern.SlicesOverlaps.overlaps #[tS, tS] #[tR] #[v, u]).run P w = .ok (.bool false) w := by
      obtain ⟨_, v0, sp0, xs0, _, _, hb0, _, _, hor0⟩ := hr0
      obtain ⟨hw1, v1, sp1, xs1, hs1, _, hb1, _, hx1, hor1⟩ := hr1
      cases h1 with
      | own _ _ _ wd hbt =>
        rw [hbt] at hb0
        cases hb0
        cases h2 with
        | sub _ _ _ _ A n c wd' hbt' =>
          rw [hbt'] at hb1
          cases hb1
          rcases hor0 with ⟨rfl, rfl, _, A0, rfl⟩ | ⟨g0, hg0, rfl, _, hh0, _, _, _⟩
          · exact run_overlaps_zero w tS tR e0 ht _ hz _ _ _ _ _ _ (.inl rfl)
          · rcases hor1 with ⟨rfl, rfl, _, A1, _⟩ | ⟨g1, hg1, hv1, _, hh1, _, _, _⟩
            · exact run_overlaps_zero w tS tR e0 ht _ hz _ _ _ _ _ _ (.inr (by simp at hll; omega))
            · by_cases hl0 : len = 0
              · exact run_overlaps_zero w tS tR e0 ht _ hz _ _ _ _ _ _ (.inr hl0)
              · cases hv1
                have hne : g0 ≠ g1 := fun hg => by
                  rw [hg, ← hg1] at hg0
                  have := hH.inj PID (PID + 1) g1 (by rw [hg0, hg1]) hg1
                  omega
                have hx : xs1.length ≠ 0 := by
                  have e1 := hx1.1
                  rw [flat_length _ hs1, List.length_append] at e1
                  rw [e1]
                  exact Nat.ne_of_gt (Nat.mul_pos (by omega) hw1)
                have hcl : ¬ es'.length + sp1.length = lo := by omega
                rw [if_neg hcl]
                refine Lib.run_overlaps_apart w tS tR e0 ht _ hz ⟨g0, 0, none⟩ (Addr.add ⟨g1, 0, none⟩ (lo * s'.width)) _ _ _ _ ?_ e e' xs0.length xs1.length ?_ ?_ hx ?_ ?_
                · rw [add_block]; exact hne
                · simp [World.shape?, hh0]
                · rw [add_block]; simp [World.shape?, hh1]
                · simp [World.frozen?, hh0]
                · simp [World.frozen?, hh0]
    show ((Extern.SlicesOverlaps.overlaps #[tS, tS] #[tR] #[v, u]).run P w).andThen _ = _
    rw [key]
    rfl
  · cases h

end Go.Ev
