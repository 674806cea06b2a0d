/-
  HostsPrintMatchesSpec, the tied card: for every input the call returns true, and the arguments read as before; the listed tables read as the program's text lays them.
-/
import Derived.Test.YtegeegibnckkkaaDoorHsG
import Derived.Test.YtegeegibnckkkaaDoorHsQ
import Derived.Test.YtegeegibnckkkaaDoorHsF
import Derived.Test.YtegeegibnckkkaaDoorHsI
import Derived.Test.YtegeegibnckkkaaDoorRows
import Derived.WalkKit
import Derived.ProofKit
import Derived.OpenShut
import Derived.Test.YtegeegibnckkkaaDoorCards
import Derived.Test.YtegeegibnckkkaaDoorTie
import Derived.LaidMore
import Derived.Lay
import Derived.SevenTiedAt
import Derived.Stop.Joined
/-
  Check, and its law.
-/
namespace Go.Proofs.YtegeegibnckkkaaDoor
open Go.Ev

/-! What the policies' fault says of them. -/
theorem polsF_zero {es : List AV} {d h : List UInt8} (hz : ((polsF es d h).1 != 0) = false) : es.length ≤ 60 ∧ nmS d = true ∧ nmS h = true ∧ ∀ i, i < es.length → (codeP es i != 0) = false := by
  unfold polsF at hz
  by_cases h2 : (es.length : Int) > 60
  · rw [decide_eq_true h2] at hz; cases hz
  · rw [decide_eq_false h2] at hz
    cases h3 : badP es with
    | some i =>
      rw [h3] at hz
      obtain ⟨_, hi, hp, _⟩ := findN_some h3
      exfalso
      have hz : (codeP es i != 0) = false := hz
      rw [hz] at hp; cases hp
    | none =>
      rw [h3] at hz
      cases h4 : nmS d
      · rw [h4] at hz; cases hz
      · cases h5 : nmS h
        · rw [h4, h5] at hz; cases hz
        · exact ⟨by omega, rfl, rfl, fun i hi => findN_none h3 i (Nat.zero_le _) hi⟩
theorem smQ_of {es : List AV} (h : ∀ i, i < es.length → (codeP es i != 0) = false) : smQ es = true := by
  refine List.all_eq_true.2 fun e he => ?_
  obtain ⟨i, hi, rfl⟩ := List.getElem_of_mem he
  have hc := h i hi
  rw [← getD_eq hi]
  have hp : ((polF (pS (es.getD i .unk)) (pR (es.getD i .unk))).1 != 0) = false := by
    cases hb : (polF (pS (es.getD i .unk)) (pR (es.getD i .unk))).1 != 0
    · rfl
    · have : codeP es i = (polF (pS (es.getD i .unk)) (pR (es.getD i .unk))).1 := by
        show (bif (polF (pS (es.getD i .unk)) (pR (es.getD i .unk))).1 != 0 then _ else _) = _
        rw [hb]; rfl
      rw [this, hb] at hc; cases hc
  obtain ⟨_, p1, p2⟩ := polF_zero hp
  exact and_t (decide_eq_true (by omega)) (List.all_eq_true.2 fun r hr => decide_eq_true (rcE_zero (p2 r hr)))
noncomputable def GH : Env := { G13 with opens := [(35, ofX (F35 11))] }
theorem gH : GOK Tryd.prog GH := GOK.alsoX g13 (ok35 11)
theorem loop13 : LoopOK Tryd.prog GH [(4, l13)] b13 l13 := by
  refine loopT gH.natOK rfl (KOK.nil (by kernel_rfl)) μ13 (fun ρ vs rs k r h => ?_)
  unfold L13 at h
  split at h
  · rename_i es d h0 es' n i
    obtain ⟨hc, hk⟩ := gd_some h
    simp only [Bool.and_eq_true] at hc
    obtain ⟨hc, hG, hS, hN⟩ := hc
    have hN' : es'.length = es.length := Nat.eq_of_beq_eq_true hN
    have hG' := of_decide_eq_true hG
    obtain ⟨rfl, hs, j, rfl, hj⟩ := cnt_spec hc
    rw [Int.toNat_natCast] at hk
    refine Eq.trans (b := bif decide ((↑j : Int) < (↑es.length : Int)) then bif inb (↑j : Int) es'.length then bif small (pS (es'.getD j AV.unk)).length && (small (pR (es'.getD j AV.unk)).length && smR (pR (es'.getD j AV.unk))) then bif (polF (pS (es'.getD j AV.unk)) (pR (es'.getD j AV.unk))).fst != (0 : Int) then k Ex.ret [AV.slv (Sh.agg [Sh.str, (Sh.agg [Sh.int IntKind.i64, Sh.int IntKind.i64, Sh.str]).slice]) es, AV.str d, AV.str h0, AV.int IntKind.i64 (0 : Int), AV.ptr (1 : Nat) (0 : Nat), AV.slv (Sh.agg [Sh.str, (Sh.agg [Sh.int IntKind.i64, Sh.int IntKind.i64, Sh.str]).slice]) es', AV.int IntKind.i64 (↑es.length : Int), AV.int IntKind.i64 (↑j : Int)] [some (Row.box false [AV.int IntKind.i64 (polF (pS (es'.getD j AV.unk)) (pR (es'.getD j AV.unk))).fst, AV.int IntKind.i64 (↑j : Int)])] else bif slb (0 : Int) (↑j : Int) es.length then bif small (List.take (j - Int.toNat (0 : Int)) (List.drop (0 : Nat) es)).length then bif decide (iZ (fP (pS (es'.getD j AV.unk)) (List.take (j - Int.toNat (0 : Int)) (List.drop (0 : Nat) es)) (0 : Nat)) ≥ (0 : Int)) then k Ex.ret [AV.slv (Sh.agg [Sh.str, (Sh.agg [Sh.int IntKind.i64, Sh.int IntKind.i64, Sh.str]).slice]) es, AV.str d, AV.str h0, AV.int IntKind.i64 (0 : Int), AV.ptr (1 : Nat) (0 : Nat), AV.slv (Sh.agg [Sh.str, (Sh.agg [Sh.int IntKind.i64, Sh.int IntKind.i64, Sh.str]).slice]) es', AV.int IntKind.i64 (↑es.length : Int), AV.int IntKind.i64 (↑j : Int)] [some (Row.box false [AV.int IntKind.i64 (7 : Int), AV.int IntKind.i64 (↑j : Int)])] else bif decide (((↑es.length : Int) - IntKind.i64.wrap ((↑j : Int) + (1 : Int))).toNat < ((↑es.length : Int) - (↑j : Int)).toNat) then bif cnt (↑es.length : Int) (IntKind.i64.wrap ((↑j : Int) + (1 : Int))) es.length && (decide (es.length ≤ (60 : Nat)) && (smP es' && es'.length.beq es.length)) then bif (findN (fun i => codeQ es es' i != (0 : Int)) es.length (IntKind.i64.wrap ((↑j : Int) + (1 : Int))).toNat).isSome then k Ex.ret [AV.slv (Sh.agg [Sh.str, (Sh.agg [Sh.int IntKind.i64, Sh.int IntKind.i64, Sh.str]).slice]) es, AV.str d, AV.str h0, AV.int IntKind.i64 (0 : Int), AV.ptr (1 : Nat) (0 : Nat), AV.slv (Sh.agg [Sh.str, (Sh.agg [Sh.int IntKind.i64, Sh.int IntKind.i64, Sh.str]).slice]) es', AV.int IntKind.i64 (↑es.length : Int), AV.int IntKind.i64 (↑((findN (fun i => codeQ es es' i != (0 : Int)) es.length (IntKind.i64.wrap ((↑j : Int) + (1 : Int))).toNat).getD (0 : Nat)) : Int)] [some (Row.box false [AV.int IntKind.i64 (codeQ es es' ((findN (fun i => codeQ es es' i != (0 : Int)) es.length (IntKind.i64.wrap ((↑j : Int) + (1 : Int))).toNat).getD (0 : Nat))), AV.int IntKind.i64 (↑((findN (fun i => codeQ es es' i != (0 : Int)) es.length (IntKind.i64.wrap ((↑j : Int) + (1 : Int))).toNat).getD (0 : Nat)) : Int)])] else k (Ex.exit (0 : Nat)) [AV.slv (Sh.agg [Sh.str, (Sh.agg [Sh.int IntKind.i64, Sh.int IntKind.i64, Sh.str]).slice]) es, AV.str d, AV.str h0, AV.int IntKind.i64 (0 : Int), AV.ptr (1 : Nat) (0 : Nat), AV.slv (Sh.agg [Sh.str, (Sh.agg [Sh.int IntKind.i64, Sh.int IntKind.i64, Sh.str]).slice]) es', AV.int IntKind.i64 (↑es.length : Int), AV.int IntKind.i64 (↑es.length : Int)] [some (Row.box false [AV.int IntKind.i64 (0 : Int), AV.int IntKind.i64 (0 : Int)])] else none else none else none else none else none else none else k (Ex.exit (0 : Nat)) [AV.slv (Sh.agg [Sh.str, (Sh.agg [Sh.int IntKind.i64, Sh.int IntKind.i64, Sh.str]).slice]) es, AV.str d, AV.str h0, AV.int IntKind.i64 (0 : Int), AV.ptr (1 : Nat) (0 : Nat), AV.slv (Sh.agg [Sh.str, (Sh.agg [Sh.int IntKind.i64, Sh.int IntKind.i64, Sh.str]).slice]) es', AV.int IntKind.i64 (↑es.length : Int), AV.int IntKind.i64 (↑j : Int)] [some (Row.box false [AV.int IntKind.i64 (0 : Int), AV.int IntKind.i64 (0 : Int)])]) (by kernel_rfl) ?_
    rw [← hk]
    by_cases hlt : j < es.length
    · obtain ⟨e1, e2, e3, e4, e5⟩ := cnt_facts hlt hs
      rw [sT_step _ _ _ _ _ hlt]
      obtain ⟨s1, s2, s3⟩ := smP_at hS (show j < es'.length by omega)
      have e6 : inb (j : Int) es'.length = true := inb_true (by omega) (by omega)
      have e7 : slb 0 (j : Int) es.length = true := slb_true (by omega) (by omega) (by omega)
      have e8 : small (es.take j).length = true := decide_eq_true (by rw [List.length_take]; omega)
      have e9 : codeQ es es' j = bif (polF (pS (es'.getD j .unk)) (pR (es'.getD j .unk))).1 != 0 then (polF (pS (es'.getD j .unk)) (pR (es'.getD j .unk))).1 else bif (findN (fun k => isP (pS (es'.getD j .unk)) (es.getD k .unk)) j 0).isSome then 7 else 0 := rfl
      have e10 : List.take (j - Int.toNat 0) (List.drop 0 es) = es.take j := rfl
      rw [e10, dup_take es _ (by omega), iZ_ge]
      simp only [e1, e3, e4, e5, e6, e7, e8, e9, s1, s2, s3, hG, hS, hN, cond_true, Int.toNat_natCast, Bool.and_self]
      generalize (findN (fun k => isP (pS (es'.getD j .unk)) (es.getD k .unk)) j 0).isSome = a2
      cases hp : (polF (pS (es'.getD j .unk)) (pR (es'.getD j .unk))).1 != 0
      · cases a2 <;> rfl
      · simp only [cond_true, hp]
        rfl
    · obtain rfl : j = es.length := by omega
      rw [decide_eq_false (by omega), sT_end]
      rfl
  · cases h
def F13 : List AV → Tr AV
  | [.slv (.agg [.str, .slice (.agg [.int .i64, .int .i64, .str])]) es, .str d, .str h] => .gd (small es.length && (smP es && (small d.length && small h.length))) (.br ((polsF es d h).1 != 0) (.leaf (.tup [.int .i64 0, fault (polsF es d h)])) (.leaf (.tup [.int .i64 (resN es h 11 d 0).1, fault (0, 0)])))
  | _ => .no
theorem ok13 : SumOK Tryd.prog 13 (ofT F13) ∧ SNat (ofT F13) := by
  refine fn1 (K := [(4, l13)]) (b := b13) (l := l13) gH Tryd.func13 (by kernel_rfl) (by kernel_rfl) loop13 fun ρ avs k r h => ?_
  unfold F13 at h
  split at h
  · rename_i es d h0
    obtain ⟨hc, hk⟩ := gd_some h
    simp only [Bool.and_eq_true] at hc
    obtain ⟨h1, h2, h3, h4⟩ := hc
    refine Eq.trans (b := bif decide ((↑es.length : Int) > (60 : Int)) then k (AV.tup [AV.int IntKind.i64 (0 : Int), AV.agg [AV.int IntKind.i64 (2 : Int), AV.int IntKind.i64 (-1 : Int)]]) else bif cnt (↑es.length : Int) (0 : Int) es.length && (decide (es.length ≤ (60 : Nat)) && (smP es && es.length.beq es.length)) then bif (findN (fun i => codeQ es es i != (0 : Int)) es.length (0 : Nat)).isSome then k (AV.tup [AV.int IntKind.i64 (0 : Int), AV.agg [AV.int IntKind.i64 (codeQ es es ((findN (fun i => codeQ es es i != (0 : Int)) es.length (0 : Nat)).getD (0 : Nat))), AV.int IntKind.i64 (↑((findN (fun i => codeQ es es i != (0 : Int)) es.length (0 : Nat)).getD (0 : Nat)) : Int)]]) else bif small d.length then bif !nmS d then k (AV.tup [AV.int IntKind.i64 (0 : Int), AV.agg [AV.int IntKind.i64 (10 : Int), AV.int IntKind.i64 (-2 : Int)]]) else bif small h0.length then bif !nmS h0 then k (AV.tup [AV.int IntKind.i64 (0 : Int), AV.agg [AV.int IntKind.i64 (10 : Int), AV.int IntKind.i64 (-3 : Int)]]) else bif ((fun x => PID + x) (0 : Nat)).beq PID && gRes (11 : Nat) es h0 (0 : Int) then k (AV.tup [AV.int IntKind.i64 (resN es h0 (11 : Nat) d (0 : Int)).fst, AV.agg [AV.int IntKind.i64 (0 : Int), AV.int IntKind.i64 (0 : Int)]]) else none else none else none else none) (by kernel_rfl) ?_
    rw [← hk]
    have hb : findN (fun i => codeQ es es i != 0) es.length 0 = badP es := rfl
    have hcc : ∀ i, codeQ es es i = codeP es i := fun _ => rfl
    have hb0 : ((fun x => PID + x) 0).beq PID = true := Nat.beq_refl PID
    rw [cnt_zero h1, h2, h3, h4, Nat.beq_refl, hb, hcc, hb0]
    show _ = (bif (polsF es d h0).1 != 0 then k (.tup [.int .i64 0, fault (polsF es d h0)]) else k (.tup [.int .i64 (resN es h0 11 d 0).1, fault (0, 0)]))
    cases hz : (polsF es d h0).1 != 0
    · obtain ⟨p1, p2, p3, p4⟩ := polsF_zero hz
      have hn : badP es = none := by
        cases hb1 : badP es with
        | none => rfl
        | some i =>
          obtain ⟨_, hi, hp, _⟩ := findN_some hb1
          have hp : (codeP es i != 0) = true := hp
          rw [p4 i hi] at hp; cases hp
      rw [hn, p2, p3, decide_eq_false (by omega : ¬ (es.length : Int) > 60), decide_eq_true p1, show gRes 11 es h0 0 = true from gRes_to ⟨by omega, by omega, by omega⟩ h1 (smQ_of p4) (by have := nm_len p3; omega)]
      rfl
    · unfold polsF at hz ⊢
      by_cases hl : (es.length : Int) > 60
      · rw [decide_eq_true hl]; rfl
      · rw [decide_eq_false hl] at hz ⊢
        rw [decide_eq_true (by omega : es.length ≤ 60)]
        cases hb2 : (badP es).isSome
        · rw [hb2] at hz
          cases hd : nmS d
          · rfl
          · cases hh : nmS h0
            · rfl
            · rw [hd, hh] at hz; cases hz
        · rfl
  · cases h
end Go.Proofs.YtegeegibnckkkaaDoor

/-
  The small policy is read and applied (hosted).
-/
namespace Go.Proofs.YtegeegibnckkkaaDoor
open Go.Ev

noncomputable def G12 : Env := { pure := [(9, ofT F9), (13, ofT F13), (11, ofT F11), (31, evF Tryd.prog G0 [] Tryd.f31)] }
theorem g12 : GOK Tryd.prog G12 := GOK.also (GOK.also (GOK.also (GOK.also g0 (inl g0 Tryd.func31 (by kernel_rfl))) ok11) ok13) ok9
def F12 : List AV → Tr AV
  | [] => .leaf (.bool true)
  | _ => .no
theorem ok12 : SumOK Tryd.prog 12 (ofT F12) ∧ SNat (ofT F12) := by
  refine fn0 g12 Tryd.func12 (by kernel_rfl) fun ρ avs k r h => ?_
  unfold F12 at h
  split at h
  · have hk := h
    rw [← hk]
    exact (show evF Tryd.prog G12 [] Tryd.f12 ρ [] k = k (.bool true) by kernel_rfl)
  · cases h
end Go.Proofs.YtegeegibnckkkaaDoor

/-
  What a law is called with, taken apart by its shape; the frame of a law's statement.
-/
namespace Go.Ev
theorem has_int {k : IntKind} {v : AV} (h : has1 (.int k) v = true) : ∃ n, v = .int k n := by
  cases v <;> simp [has1] at h
  rename_i k' n
  exact ⟨n, by rw [h]⟩
theorem has_bool {v : AV} (h : has1 .bool v = true) : ∃ b, v = .bool b := by
  cases v <;> simp [has1] at h
  exact ⟨_, rfl⟩
theorem has_str {v : AV} (h : has1 .str v = true) : ∃ s, v = .str s := by
  cases v <;> simp [has1] at h
  exact ⟨_, rfl⟩
theorem has_slice {s : Sh} {v : AV} (h : has1 (.slice s) v = true) (hf : Fit v) : ∃ es, v = .slv s es ∧ small es.length = true ∧ (∀ e ∈ es, hasSh s e = true) ∧ ∀ e ∈ es, Fit e := by
  cases hf with
  | slv s' es hm hs hfe =>
    simp only [has1] at h
    have e := Sh.beq_eq _ _ h
    subst e
    exact ⟨es, rfl, decide_eq_true hm, hs, hfe⟩
  | _ => simp [has1] at h
theorem hass_cons {s : Sh} {l : List Sh} {cs : List AV} (h : hass (s :: l) cs = true) : ∃ c cs', cs = c :: cs' ∧ has1 s c = true ∧ hass l cs' = true := by
  cases cs with
  | nil => simp [hass] at h
  | cons c cs' => simp only [hass, Bool.and_eq_true] at h; exact ⟨c, cs', rfl, h.1, h.2⟩
theorem hass_nil {cs : List AV} (h : hass [] cs = true) : cs = [] := by
  cases cs with
  | nil => rfl
  | cons c cs' => simp [hass] at h
theorem has_agg {l : List Sh} {v : AV} (h : hasSh (.agg l) v = true) : ∃ cs, v = .agg cs ∧ hass l cs = true := by
  cases v <;> simp [hasSh] at h
  exact ⟨_, rfl, h⟩
theorem Fit.agg_inv {cs : List AV} (h : Fit (.agg cs)) : ∀ c ∈ cs, Fit c := by
  cases h with
  | agg _ h => exact h
theorem Fit.str_inv {s : List UInt8} (h : Fit (.str s)) : s.length ≤ 9223372036854775807 := by
  cases h with
  | str _ h => exact h
theorem Fit.int_inv {k : IntKind} {n : Int} (h : Fit (.int k n)) : (Lit.int k n).wf = true := by
  cases h with
  | int _ _ h => exact h
theorem hasAll_cons {s : Sh} {l : List Sh} {cs : List AV} (h : hasAll (s :: l) cs = true) : ∃ c cs', cs = c :: cs' ∧ hasSh s c = true ∧ hasAll l cs' = true := by
  cases cs with
  | nil => simp [hasAll] at h
  | cons c cs' => simp only [hasAll, Bool.and_eq_true] at h; exact ⟨c, cs', rfl, h.1, h.2⟩
theorem hasAll_nil {cs : List AV} (h : hasAll [] cs = true) : cs = [] := by
  cases cs with
  | nil => rfl
  | cons c cs' => simp [hasAll] at h
end Go.Ev
namespace Go.Proofs.YtegeegibnckkkaaDoor
open Go.Ev

def bk (H : Type) : BK H := ⟨Rows.uptoBulk, Rows.uptoBulkAll, fun _ => rfl, fun l => by cases l <;> simp [Rows.uptoBulk], Nat.le_refl _, fun _ => rfl, fun _ _ => rfl, rfl, fun _ _ => rfl⟩
theorem own : ownKnob Tryd.prog.godebug = none := by kernel_rfl

end Go.Proofs.YtegeegibnckkkaaDoor

/-
  Policies that come in.
-/
namespace Go.Proofs.YtegeegibnckkkaaDoor
open Go.Ev

theorem open_rule {v : AV} (h : hasSh sR v = true) (hf : Fit v) : ∃ r k s, v = .agg [.int .i64 r, .int .i64 k, .str s] ∧ small s.length = true := by
  obtain ⟨cs, rfl, hh⟩ := has_agg h
  obtain ⟨c0, cs, rfl, h0, hh⟩ := hass_cons hh
  obtain ⟨c1, cs, rfl, h1, hh⟩ := hass_cons hh
  obtain ⟨c2, cs, rfl, h2, hh⟩ := hass_cons hh
  obtain rfl := hass_nil hh
  obtain ⟨r, rfl⟩ := has_int h0
  obtain ⟨k, rfl⟩ := has_int h1
  obtain ⟨s, rfl⟩ := has_str h2
  exact ⟨r, k, s, rfl, decide_eq_true (hf.agg_inv (.str s) (by simp)).str_inv⟩
def canR (es : List AV) : Prop := ∀ e ∈ es, ∃ r k s, e = AV.agg [.int .i64 r, .int .i64 k, .str s] ∧ small s.length = true
theorem open_pol {v : AV} (h : hasSh sP v = true) (hf : Fit v) : ∃ s rs, v = .agg [.str s, .slv sR rs] ∧ small s.length = true ∧ small rs.length = true ∧ canR rs ∧ (∀ e ∈ rs, hasSh sR e = true) := by
  obtain ⟨cs, rfl, hh⟩ := has_agg h
  obtain ⟨c0, cs, rfl, h0, hh⟩ := hass_cons hh
  obtain ⟨c1, cs, rfl, h1, hh⟩ := hass_cons hh
  obtain rfl := hass_nil hh
  obtain ⟨s, rfl⟩ := has_str h0
  obtain ⟨rs, rfl, hs, hcan, hfit⟩ := has_slice h1 (hf.agg_inv c1 (by simp))
  exact ⟨s, rs, rfl, decide_eq_true (hf.agg_inv (.str s) (by simp)).str_inv, hs, fun e he => open_rule (hcan e he) (hfit e he), hcan⟩
theorem canR_smR {es : List AV} (h : canR es) : smR es = true := List.all_eq_true.2 fun e he => by
  obtain ⟨r, k, s, rfl, hs⟩ := h e he
  exact hs
theorem smP_of {es : List AV} (hc : ∀ e ∈ es, hasSh sP e = true) (hf : ∀ e ∈ es, Fit e) : smP es = true := List.all_eq_true.2 fun e he => by
  obtain ⟨s, rs, rfl, h1, h2, h3, _⟩ := open_pol (hc e he) (hf e he)
  exact and_t h1 (and_t h2 (canR_smR h3))
theorem fit_str {s : List UInt8} (h : Fit (.str s)) : small s.length = true := decide_eq_true h.str_inv
end Go.Proofs.YtegeegibnckkkaaDoor

namespace Go.Proofs.YtegeegibnckkkaaDoor
open Go.Ev

noncomputable def G7 : Env := { pure := [(19, ofT F19), (20, ofT F20), (21, ofT F20), (22, ofT F22), (23, evF Tryd.prog G0 [] Tryd.f23), (16, ofT F16), (12, ofT F12)] }
theorem g7 : GOK Tryd.prog G7 := GOK.also (GOK.also (GOK.also (GOK.also (GOK.also (GOK.also (GOK.also g0 ok12) ok16) (inl g0 Tryd.func23 (by kernel_rfl))) ok22) ok21) ok20) ok19
theorem law7 (d : List UInt8) (es : List AV) (hc : (small d.length && (small es.length && smR es)) = true) : evF Tryd.prog G7 [] Tryd.f7 AV [.agg [.str d, .slv sR es]] some = some (.bool true) := by
  refine Eq.trans (b := bif small d.length && (small es.length && smR es) then bif (polF d es).fst != (0 : Int) then bif small d.length && (small es.length && smR es) then bif small d.length && (small es.length && smR es) then bif !((polF d es).fst == (polF d es).fst && ((polF d es).snd == (polF d es).snd && true)) then some (AV.bool false) else bif (polF d es).fst == (0 : Int) then bif decide (es.length ≤ (60 : Nat) ∧ d.length ≤ (10000 : Nat)) && es.all okT then bif decide ((↑(d ++ tail es).length : Int) > (4000 : Int)) then bif (polF d es).fst == (1 : Int) && ((polF d es).snd == (-1 : Int) && true) then some (AV.bool true) else some (AV.bool false) else bif (polF d es).fst != (0 : Int) then bif (polF d es).fst == (polF d es).fst && ((polF d es).snd == (polF d es).snd && true) then some (AV.bool true) else some (AV.bool false) else bif (polF d es).fst == (0 : Int) then bif decide (es.length ≤ (60 : Nat) ∧ d.length ≤ (10000 : Nat)) && es.all okT then bif [] == d ++ tail es then some (AV.bool true) else some (AV.bool false) else none else some (AV.bool false) else none else bif (polF d es).fst != (0 : Int) then bif (polF d es).fst == (polF d es).fst && ((polF d es).snd == (polF d es).snd && true) then some (AV.bool true) else some (AV.bool false) else bif (polF d es).fst == (0 : Int) then bif decide (es.length ≤ (60 : Nat) ∧ d.length ≤ (10000 : Nat)) && es.all okT then bif [] == d ++ tail es then some (AV.bool true) else some (AV.bool false) else none else some (AV.bool false) else none else none else bif decide ((d ++ tail es).length > (4000 : Nat)) then bif small d.length && (small es.length && smR es) then bif small d.length && (small es.length && smR es) then bif !((polF d es).fst == (polF d es).fst && ((polF d es).snd == (polF d es).snd && true)) then some (AV.bool false) else bif (polF d es).fst == (0 : Int) then bif decide (es.length ≤ (60 : Nat) ∧ d.length ≤ (10000 : Nat)) && es.all okT then bif decide ((↑(d ++ tail es).length : Int) > (4000 : Int)) then some (AV.bool true) else bif (polF d es).fst != (0 : Int) then bif ((1 : Int), (-1 : Int)).fst == (polF d es).fst && (((1 : Int), (-1 : Int)).snd == (polF d es).snd && true) then some (AV.bool true) else some (AV.bool false) else some (AV.bool false) else none else bif (polF d es).fst != (0 : Int) then bif ((1 : Int), (-1 : Int)).fst == (polF d es).fst && (((1 : Int), (-1 : Int)).snd == (polF d es).snd && true) then some (AV.bool true) else some (AV.bool false) else some (AV.bool false) else none else none else bif small d.length && (small es.length && smR es) then bif small d.length && (small es.length && smR es) then bif !((polF d es).fst == (polF d es).fst && ((polF d es).snd == (polF d es).snd && true)) then some (AV.bool false) else bif (polF d es).fst == (0 : Int) then bif decide (es.length ≤ (60 : Nat) ∧ d.length ≤ (10000 : Nat)) && es.all okT then bif decide ((↑(d ++ tail es).length : Int) > (4000 : Int)) then some (AV.bool false) else bif (polF d es).fst != (0 : Int) then bif ((0 : Int), (0 : Int)).fst == (polF d es).fst && (((0 : Int), (0 : Int)).snd == (polF d es).snd && true) then bif d ++ tail es == ([] : List UInt8) then some (AV.bool true) else some (AV.bool false) else some (AV.bool false) else bif decide (es.length ≤ (60 : Nat) ∧ d.length ≤ (10000 : Nat)) && es.all okT then bif d ++ tail es == d ++ tail es then some (AV.bool true) else some (AV.bool false) else none else none else bif (polF d es).fst != (0 : Int) then bif ((0 : Int), (0 : Int)).fst == (polF d es).fst && (((0 : Int), (0 : Int)).snd == (polF d es).snd && true) then bif d ++ tail es == ([] : List UInt8) then some (AV.bool true) else some (AV.bool false) else some (AV.bool false) else bif decide (es.length ≤ (60 : Nat) ∧ d.length ≤ (10000 : Nat)) && es.all okT then bif d ++ tail es == d ++ tail es then some (AV.bool true) else some (AV.bool false) else none else none else none else none) (by kernel_rfl) ?_
  rw [hc, beq_self_eq_true, beq_self_eq_true]
  cases hz : (polF d es).1 != 0
  · obtain ⟨p1, p2, p3⟩ := polF_zero hz
    have h0 : ((polF d es).1 == 0) = true := by simpa using hz
    have hok : (decide (es.length ≤ 60 ∧ d.length ≤ 10000) && es.all okT) = true := and_t (decide_eq_true ⟨p2, by have := nm_len p1; omega⟩) (List.all_eq_true.2 fun e he => rcE_ok (p3 e he))
    rw [h0, hok, show decide (((d ++ tail es).length : Int) > 4000) = decide ((d ++ tail es).length > 4000) from decide_eq_decide.2 (by omega), beq_self_eq_true]
    cases decide ((d ++ tail es).length > 4000) <;> rfl
  · have h0 : ((polF d es).1 == 0) = false := by
      rw [← Bool.not_eq_true', ← bne] at *
      simpa using hz
    rw [h0]
    rfl
theorem okL7 : SumOK Tryd.prog 7 (evF Tryd.prog G7 [] Tryd.f7) := sum0 g7 Tryd.func7 (by kernel_rfl) fun _ _ _ _ h => h

theorem spec7 (H : Type) : ∀ ds : List (DataW H), ds.length = Tryd.f7.params.size → Rows.hostsPrintMatchesSpecSpec.fn H ds = { results := [.lit (.bool true)], args := ds }
  | [_], _ => rfl

set_option maxRecDepth 100000 in
theorem lifted7 (os : Os) (started : os.Started) (H : Type) (enc : TypeId × Value → H) :
    ReturnsInHanded {} Tryd.checked os 7 .any (fun w args => (Rows.hostsPrintMatchesSpecSpec.pre enc Tryd.prog Tryd.f7 Rows.hostsPrintMatchesSpecRow.domain false w args ∧ laidMetH Tryd.prog Rows.hostsPrintMatchesSpecRow.laid w) ∧ sizedMet enc Tryd.prog Tryd.f7 (OpenSpec.ofChange Rows.hostsPrintMatchesSpecSpec) false w args)
      (Rows.hostsPrintMatchesSpecSpec.post enc Tryd.prog Tryd.f7 false true false false) := by
  refine returnsInHanded_of_change_and (C := Tryd.checked) (X := fun w _ => laidMetH Tryd.prog Rows.hostsPrintMatchesSpecRow.laid w) (fun _ _ _ hh h => h.of_heap hh) own started (by kernel_rfl) Tryd.func7
    (ChangeSpec.witness_shaped (enc := enc) (C := Tryd.checked) (os := os) (X := fun w _ => laidMetH Tryd.prog Rows.hostsPrintMatchesSpecRow.laid w) false (World.laidAll Tryd.prog os Rows.hostsPrintMatchesSpecRow.laid) #[.agg #[.string ⟨#[]⟩, .slice none 0 0]] 8 (World.laidAll_os _ _ _)
      (World.shaped_of_ZipB (by kernel_rfl) (by kernel_rfl)) (by kernel_rfl) (by kernel_rfl) (by kernel_rfl)
      (by rw [MakeChecks.laidMetH_plain _ _ _ (by kernel_rfl)]; exact laidMet_laidAll _ (by kernel_rfl) (by kernel_rfl))) ?_
  intro W base args ds gs before hval hW _ _ _ _
  refine contract_of (bk H) (n := 12) (tb := 4) (F := evF Tryd.prog G7 [] Tryd.f7) (by kernel_rfl) (by kernel_rfl) (by kernel_rfl) rfl (by kernel_rfl) (by kernel_rfl) (spec7 H) (okL7) (fun avs hg => ?_) hval hW
  have hh : hasAll [sP] avs = true := hg.has
  obtain ⟨v0, cs, rfl, h0, hh⟩ := hasAll_cons hh
  obtain rfl := hasAll_nil hh
  obtain ⟨d, es, rfl, h1, h2, h3, _⟩ := open_pol h0 (hg.fit _ (by simp))
  exact law7 d es (and_t h1 (and_t h2 (canR_smR h3)))

theorem row_holds7 : Rows.HostsPrintMatchesSpecSaid :=
  OpenClaim.holds_of_wide 7 Tryd.f7 rfl rfl rfl rfl rfl rfl rfl ⟨rfl, rfl, rfl, rfl, rfl⟩ rfl rfl rfl rfl rfl (by kernel_rfl) Tryd.func7 (by kernel_rfl)
    (of_decide_eq_true (by kernel_rfl)) (by unfold Func.isWrapper; first | (rw [if_pos (by decide +kernel)]; kernel_rfl) | (rw [if_neg (by decide +kernel)]; exact ⟨rfl, rfl⟩))
    (fun os started H enc _ => lifted7 os started H enc)

theorem print_matches_spec : Rows.HostsPrintMatchesSpecCardSaid :=
  Claim7.holds_tied_plain_at .later [] [.data, .pinned] true (true, "a3c251f5752f80002ea6722eb34b424962026897df155e1746afa3423cb18f56") false row_holds7 (fun _ h => by cases h) (by kernel_rfl) (fun _ h => by cases h) hostsPrintMatchesSpec_row_tie rfl ⟨rfl, rfl⟩ (by kernel_rfl) rfl
    (fun f fn hf hfn => by
      obtain rfl : f = 7 := Option.some.inj ((show Tryd.prog.funcNamed "posthouse/posthouselaw5.HostsPrintMatchesSpec" = some 7 by kernel_rfl).symm.trans hf) |>.symm
      obtain rfl : fn = Tryd.f7 := (Option.some.inj (Tryd.func7.symm.trans hfn)).symm
      exact ⟨by kernel_rfl, fun j t ht => by
        have hm : t ∈ Tryd.f7.params.toList := Array.mem_def.1 (Array.mem_of_getElem? ht)
        have hall : (Tryd.f7.params.toList.all fun u => !Tryd.prog.wantsStandIn u) = true := by kernel_rfl
        exact (show Tryd.prog.wantsStandIn t = false by simpa using List.all_eq_true.1 hall t hm)⟩)
    (by kernel_rfl)

end Go.Proofs.YtegeegibnckkkaaDoor
