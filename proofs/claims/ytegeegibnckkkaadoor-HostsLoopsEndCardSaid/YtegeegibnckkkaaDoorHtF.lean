/-
  HostsLoopsEnd, the tied card: for every input the call returns true, and the arguments read as before; the listed tables read as the program's text lays them.
-/
import Derived.Test.YtegeegibnckkkaaDoorHsG
import Derived.Test.YtegeegibnckkkaaDoorHsQ
import Derived.Test.YtegeegibnckkkaaDoorHsF
import Derived.Test.YtegeegibnckkkaaDoorHsI
import Derived.Test.YtegeegibnckkkaaDoorRows
import Derived.WalkKit
import Derived.ProofKit
import Derived.OpenShut
import Derived.Test.YtegeegibnckkkaaDoorCards
import Derived.Test.YtegeegibnckkkaaDoorTie
import Derived.LaidMore
import Derived.Lay
import Derived.SevenTiedAt
import Derived.Stop.Joined
/-
  Check, and its law.
-/
namespace Go.Proofs.YtegeegibnckkkaaDoor
open Go.Ev

/-! What the policies' fault says of them. -/
theorem polsF_zero {es : List AV} {d h : List UInt8} (hz : ((polsF es d h).1 != 0) = false) : es.length ≤ 60 ∧ nmS d = true ∧ nmS h = true ∧ ∀ i, i < es.length → (codeP es i != 0) = false := by
  unfold polsF at hz
  by_cases h2 : (es.length : Int) > 60
  · rw [decide_eq_true h2] at hz; cases hz
  · rw [decide_eq_false h2] at hz
    cases h3 : badP es with
    | some i =>
      rw [h3] at hz
      obtain ⟨_, hi, hp, _⟩ := findN_some h3
      exfalso
      have hz : (codeP es i != 0) = false := hz
      rw [hz] at hp; cases hp
    | none =>
      rw [h3] at hz
      cases h4 : nmS d
      · rw [h4] at hz; cases hz
      · cases h5 : nmS h
        · rw [h4, h5] at hz; cases hz
        · exact ⟨by omega, rfl, rfl, fun i hi => findN_none h3 i (Nat.zero_le _) hi⟩
theorem smQ_of {es : List AV} (h : ∀ i, i < es.length → (codeP es i != 0) = false) : smQ es = true := by
  refine List.all_eq_true.2 fun e he => ?_
  obtain ⟨i, hi, rfl⟩ := List.getElem_of_mem he
  have hc := h i hi
  rw [← getD_eq hi]
  have hp : ((polF (pS (es.getD i .unk)) (pR (es.getD i .unk))).1 != 0) = false := by
    cases hb : (polF (pS (es.getD i .unk)) (pR (es.getD i .unk))).1 != 0
    · rfl
    · have : codeP es i = (polF (pS (es.getD i .unk)) (pR (es.getD i .unk))).1 := by
        show (bif (polF (pS (es.getD i .unk)) (pR (es.getD i .unk))).1 != 0 then _ else _) = _
        rw [hb]; rfl
      rw [this, hb] at hc; cases hc
  obtain ⟨_, p1, p2⟩ := polF_zero hp
  exact and_t (decide_eq_true (by omega)) (List.all_eq_true.2 fun r hr => decide_eq_true (rcE_zero (p2 r hr)))
noncomputable def GH : Env := { G13 with opens := [(35, ofX (F35 11))] }
theorem gH : GOK Tryd.prog GH := GOK.alsoX g13 (ok35 11)
theorem loop13 : LoopOK Tryd.prog GH [(4, l13)] b13 l13 := by
  refine loopT gH.natOK rfl (KOK.nil (by kernel_rfl)) μ13 (fun ρ vs rs k r h => ?_)
  unfold L13 at h
  split at h
  · rename_i es d h0 es' n i
    obtain ⟨hc, hk⟩ := gd_some h
    simp only [Bool.and_eq_true] at hc
    obtain ⟨hc, hG, hS, hN⟩ := hc
    have hN' : es'.length = es.length := Nat.eq_of_beq_eq_true hN
    have hG' := of_decide_eq_true hG
    obtain ⟨rfl, hs, j, rfl, hj⟩ := cnt_spec hc
    rw [Int.toNat_natCast] at hk
    refine Eq.trans (b := bif decide ((↑j : Int) < (↑es.length : Int)) then bif inb (↑j : Int) es'.length then bif small (pS (es'.getD j AV.unk)).length && (small (pR (es'.getD j AV.unk)).length && smR (pR (es'.getD j AV.unk))) then bif (polF (pS (es'.getD j AV.unk)) (pR (es'.getD j AV.unk))).fst != (0 : Int) then k Ex.ret [AV.slv (Sh.agg [Sh.str, (Sh.agg [Sh.int IntKind.i64, Sh.int IntKind.i64, Sh.str]).slice]) es, AV.str d, AV.str h0, AV.int IntKind.i64 (0 : Int), AV.ptr (1 : Nat) (0 : Nat), AV.slv (Sh.agg [Sh.str, (Sh.agg [Sh.int IntKind.i64, Sh.int IntKind.i64, Sh.str]).slice]) es', AV.int IntKind.i64 (↑es.length : Int), AV.int IntKind.i64 (↑j : Int)] [some (Row.box false [AV.int IntKind.i64 (polF (pS (es'.getD j AV.unk)) (pR (es'.getD j AV.unk))).fst, AV.int IntKind.i64 (↑j : Int)])] else bif slb (0 : Int) (↑j : Int) es.length then bif small (List.take (j - Int.toNat (0 : Int)) (List.drop (0 : Nat) es)).length then bif decide (iZ (fP (pS (es'.getD j AV.unk)) (List.take (j - Int.toNat (0 : Int)) (List.drop (0 : Nat) es)) (0 : Nat)) ≥ (0 : Int)) then k Ex.ret [AV.slv (Sh.agg [Sh.str, (Sh.agg [Sh.int IntKind.i64, Sh.int IntKind.i64, Sh.str]).slice]) es, AV.str d, AV.str h0, AV.int IntKind.i64 (0 : Int), AV.ptr (1 : Nat) (0 : Nat), AV.slv (Sh.agg [Sh.str, (Sh.agg [Sh.int IntKind.i64, Sh.int IntKind.i64, Sh.str]).slice]) es', AV.int IntKind.i64 (↑es.length : Int), AV.int IntKind.i64 (↑j : Int)] [some (Row.box false [AV.int IntKind.i64 (7 : Int), AV.int IntKind.i64 (↑j : Int)])] else bif decide (((↑es.length : Int) - IntKind.i64.wrap ((↑j : Int) + (1 : Int))).toNat < ((↑es.length : Int) - (↑j : Int)).toNat) then bif cnt (↑es.length : Int) (IntKind.i64.wrap ((↑j : Int) + (1 : Int))) es.length && (decide (es.length ≤ (60 : Nat)) && (smP es' && es'.length.beq es.length)) then bif (findN (fun i => codeQ es es' i != (0 : Int)) es.length (IntKind.i64.wrap ((↑j : Int) + (1 : Int))).toNat).isSome then k Ex.ret [AV.slv (Sh.agg [Sh.str, (Sh.agg [Sh.int IntKind.i64, Sh.int IntKind.i64, Sh.str]).slice]) es, AV.str d, AV.str h0, AV.int IntKind.i64 (0 : Int), AV.ptr (1 : Nat) (0 : Nat), AV.slv (Sh.agg [Sh.str, (Sh.agg [Sh.int IntKind.i64, Sh.int IntKind.i64, Sh.str]).slice]) es', AV.int IntKind.i64 (↑es.length : Int), AV.int IntKind.i64 (↑((findN (fun i => codeQ es es' i != (0 : Int)) es.length (IntKind.i64.wrap ((↑j : Int) + (1 : Int))).toNat).getD (0 : Nat)) : Int)] [some (Row.box false [AV.int IntKind.i64 (codeQ es es' ((findN (fun i => codeQ es es' i != (0 : Int)) es.length (IntKind.i64.wrap ((↑j : Int) + (1 : Int))).toNat).getD (0 : Nat))), AV.int IntKind.i64 (↑((findN (fun i => codeQ es es' i != (0 : Int)) es.length (IntKind.i64.wrap ((↑j : Int) + (1 : Int))).toNat).getD (0 : Nat)) : Int)])] else k (Ex.exit (0 : Nat)) [AV.slv (Sh.agg [Sh.str, (Sh.agg [Sh.int IntKind.i64, Sh.int IntKind.i64, Sh.str]).slice]) es, AV.str d, AV.str h0, AV.int IntKind.i64 (0 : Int), AV.ptr (1 : Nat) (0 : Nat), AV.slv (Sh.agg [Sh.str, (Sh.agg [Sh.int IntKind.i64, Sh.int IntKind.i64, Sh.str]).slice]) es', AV.int IntKind.i64 (↑es.length : Int), AV.int IntKind.i64 (↑es.length : Int)] [some (Row.box false [AV.int IntKind.i64 (0 : Int), AV.int IntKind.i64 (0 : Int)])] else none else none else none else none else none else none else k (Ex.exit (0 : Nat)) [AV.slv (Sh.agg [Sh.str, (Sh.agg [Sh.int IntKind.i64, Sh.int IntKind.i64, Sh.str]).slice]) es, AV.str d, AV.str h0, AV.int IntKind.i64 (0 : Int), AV.ptr (1 : Nat) (0 : Nat), AV.slv (Sh.agg [Sh.str, (Sh.agg [Sh.int IntKind.i64, Sh.int IntKind.i64, Sh.str]).slice]) es', AV.int IntKind.i64 (↑es.length : Int), AV.int IntKind.i64 (↑j : Int)] [some (Row.box false [AV.int IntKind.i64 (0 : Int), AV.int IntKind.i64 (0 : Int)])]) (by kernel_rfl) ?_
    rw [← hk]
    by_cases hlt : j < es.length
    · obtain ⟨e1, e2, e3, e4, e5⟩ := cnt_facts hlt hs
      rw [sT_step _ _ _ _ _ hlt]
      obtain ⟨s1, s2, s3⟩ := smP_at hS (show j < es'.length by omega)
      have e6 : inb (j : Int) es'.length = true := inb_true (by omega) (by omega)
      have e7 : slb 0 (j : Int) es.length = true := slb_true (by omega) (by omega) (by omega)
      have e8 : small (es.take j).length = true := decide_eq_true (by rw [List.length_take]; omega)
      have e9 : codeQ es es' j = bif (polF (pS (es'.getD j .unk)) (pR (es'.getD j .unk))).1 != 0 then (polF (pS (es'.getD j .unk)) (pR (es'.getD j .unk))).1 else bif (findN (fun k => isP (pS (es'.getD j .unk)) (es.getD k .unk)) j 0).isSome then 7 else 0 := rfl
      have e10 : List.take (j - Int.toNat 0) (List.drop 0 es) = es.take j := rfl
      rw [e10, dup_take es _ (by omega), iZ_ge]
      simp only [e1, e3, e4, e5, e6, e7, e8, e9, s1, s2, s3, hG, hS, hN, cond_true, Int.toNat_natCast, Bool.and_self]
      generalize (findN (fun k => isP (pS (es'.getD j .unk)) (es.getD k .unk)) j 0).isSome = a2
      cases hp : (polF (pS (es'.getD j .unk)) (pR (es'.getD j .unk))).1 != 0
      · cases a2 <;> rfl
      · simp only [cond_true, hp]
        rfl
    · obtain rfl : j = es.length := by omega
      rw [decide_eq_false (by omega), sT_end]
      rfl
  · cases h
def F13 : List AV → Tr AV
  | [.slv (.agg [.str, .slice (.agg [.int .i64, .int .i64, .str])]) es, .str d, .str h] => .gd (small es.length && (smP es && (small d.length && small h.length))) (.br ((polsF es d h).1 != 0) (.leaf (.tup [.int .i64 0, fault (polsF es d h)])) (.leaf (.tup [.int .i64 (resN es h 11 d 0).1, fault (0, 0)])))
  | _ => .no
theorem ok13 : SumOK Tryd.prog 13 (ofT F13) ∧ SNat (ofT F13) := by
  refine fn1 (K := [(4, l13)]) (b := b13) (l := l13) gH Tryd.func13 (by kernel_rfl) (by kernel_rfl) loop13 fun ρ avs k r h => ?_
  unfold F13 at h
  split at h
  · rename_i es d h0
    obtain ⟨hc, hk⟩ := gd_some h
    simp only [Bool.and_eq_true] at hc
    obtain ⟨h1, h2, h3, h4⟩ := hc
    refine Eq.trans (b := bif decide ((↑es.length : Int) > (60 : Int)) then k (AV.tup [AV.int IntKind.i64 (0 : Int), AV.agg [AV.int IntKind.i64 (2 : Int), AV.int IntKind.i64 (-1 : Int)]]) else bif cnt (↑es.length : Int) (0 : Int) es.length && (decide (es.length ≤ (60 : Nat)) && (smP es && es.length.beq es.length)) then bif (findN (fun i => codeQ es es i != (0 : Int)) es.length (0 : Nat)).isSome then k (AV.tup [AV.int IntKind.i64 (0 : Int), AV.agg [AV.int IntKind.i64 (codeQ es es ((findN (fun i => codeQ es es i != (0 : Int)) es.length (0 : Nat)).getD (0 : Nat))), AV.int IntKind.i64 (↑((findN (fun i => codeQ es es i != (0 : Int)) es.length (0 : Nat)).getD (0 : Nat)) : Int)]]) else bif small d.length then bif !nmS d then k (AV.tup [AV.int IntKind.i64 (0 : Int), AV.agg [AV.int IntKind.i64 (10 : Int), AV.int IntKind.i64 (-2 : Int)]]) else bif small h0.length then bif !nmS h0 then k (AV.tup [AV.int IntKind.i64 (0 : Int), AV.agg [AV.int IntKind.i64 (10 : Int), AV.int IntKind.i64 (-3 : Int)]]) else bif ((fun x => PID + x) (0 : Nat)).beq PID && gRes (11 : Nat) es h0 (0 : Int) then k (AV.tup [AV.int IntKind.i64 (resN es h0 (11 : Nat) d (0 : Int)).fst, AV.agg [AV.int IntKind.i64 (0 : Int), AV.int IntKind.i64 (0 : Int)]]) else none else none else none else none) (by kernel_rfl) ?_
    rw [← hk]
    have hb : findN (fun i => codeQ es es i != 0) es.length 0 = badP es := rfl
    have hcc : ∀ i, codeQ es es i = codeP es i := fun _ => rfl
    have hb0 : ((fun x => PID + x) 0).beq PID = true := Nat.beq_refl PID
    rw [cnt_zero h1, h2, h3, h4, Nat.beq_refl, hb, hcc, hb0]
    show _ = (bif (polsF es d h0).1 != 0 then k (.tup [.int .i64 0, fault (polsF es d h0)]) else k (.tup [.int .i64 (resN es h0 11 d 0).1, fault (0, 0)]))
    cases hz : (polsF es d h0).1 != 0
    · obtain ⟨p1, p2, p3, p4⟩ := polsF_zero hz
      have hn : badP es = none := by
        cases hb1 : badP es with
        | none => rfl
        | some i =>
          obtain ⟨_, hi, hp, _⟩ := findN_some hb1
          have hp : (codeP es i != 0) = true := hp
          rw [p4 i hi] at hp; cases hp
      rw [hn, p2, p3, decide_eq_false (by omega : ¬ (es.length : Int) > 60), decide_eq_true p1, show gRes 11 es h0 0 = true from gRes_to ⟨by omega, by omega, by omega⟩ h1 (smQ_of p4) (by have := nm_len p3; omega)]
      rfl
    · unfold polsF at hz ⊢
      by_cases hl : (es.length : Int) > 60
      · rw [decide_eq_true hl]; rfl
      · rw [decide_eq_false hl] at hz ⊢
        rw [decide_eq_true (by omega : es.length ≤ 60)]
        cases hb2 : (badP es).isSome
        · rw [hb2] at hz
          cases hd : nmS d
          · rfl
          · cases hh : nmS h0
            · rfl
            · rw [hd, hh] at hz; cases hz
        · rfl
  · cases h
end Go.Proofs.YtegeegibnckkkaaDoor

/-
  The small policy is read and applied (hosted).
-/
namespace Go.Proofs.YtegeegibnckkkaaDoor
open Go.Ev

noncomputable def G12 : Env := { pure := [(9, ofT F9), (13, ofT F13), (11, ofT F11), (31, evF Tryd.prog G0 [] Tryd.f31)] }
theorem g12 : GOK Tryd.prog G12 := GOK.also (GOK.also (GOK.also (GOK.also g0 (inl g0 Tryd.func31 (by kernel_rfl))) ok11) ok13) ok9
def F12 : List AV → Tr AV
  | [] => .leaf (.bool true)
  | _ => .no
theorem ok12 : SumOK Tryd.prog 12 (ofT F12) ∧ SNat (ofT F12) := by
  refine fn0 g12 Tryd.func12 (by kernel_rfl) fun ρ avs k r h => ?_
  unfold F12 at h
  split at h
  · have hk := h
    rw [← hk]
    exact (show evF Tryd.prog G12 [] Tryd.f12 ρ [] k = k (.bool true) by kernel_rfl)
  · cases h
end Go.Proofs.YtegeegibnckkkaaDoor

/-
  What a law is called with, taken apart by its shape; the frame of a law's statement.
-/
namespace Go.Ev
theorem has_int {k : IntKind} {v : AV} (h : has1 (.int k) v = true) : ∃ n, v = .int k n := by
  cases v <;> simp [has1] at h
  rename_i k' n
  exact ⟨n, by rw [h]⟩
theorem has_bool {v : AV} (h : has1 .bool v = true) : ∃ b, v = .bool b := by
  cases v <;> simp [has1] at h
  exact ⟨_, rfl⟩
theorem has_str {v : AV} (h : has1 .str v = true) : ∃ s, v = .str s := by
  cases v <;> simp [has1] at h
  exact ⟨_, rfl⟩
theorem has_slice {s : Sh} {v : AV} (h : has1 (.slice s) v = true) (hf : Fit v) : ∃ es, v = .slv s es ∧ small es.length = true ∧ (∀ e ∈ es, hasSh s e = true) ∧ ∀ e ∈ es, Fit e := by
  cases hf with
  | slv s' es hm hs hfe =>
    simp only [has1] at h
    have e := Sh.beq_eq _ _ h
    subst e
    exact ⟨es, rfl, decide_eq_true hm, hs, hfe⟩
  | _ => simp [has1] at h
theorem hass_cons {s : Sh} {l : List Sh} {cs : List AV} (h : hass (s :: l) cs = true) : ∃ c cs', cs = c :: cs' ∧ has1 s c = true ∧ hass l cs' = true := by
  cases cs with
  | nil => simp [hass] at h
  | cons c cs' => simp only [hass, Bool.and_eq_true] at h; exact ⟨c, cs', rfl, h.1, h.2⟩
theorem hass_nil {cs : List AV} (h : hass [] cs = true) : cs = [] := by
  cases cs with
  | nil => rfl
  | cons c cs' => simp [hass] at h
theorem has_agg {l : List Sh} {v : AV} (h : hasSh (.agg l) v = true) : ∃ cs, v = .agg cs ∧ hass l cs = true := by
  cases v <;> simp [hasSh] at h
  exact ⟨_, rfl, h⟩
theorem Fit.agg_inv {cs : List AV} (h : Fit (.agg cs)) : ∀ c ∈ cs, Fit c := by
  cases h with
  | agg _ h => exact h
theorem Fit.str_inv {s : List UInt8} (h : Fit (.str s)) : s.length ≤ 9223372036854775807 := by
  cases h with
  | str _ h => exact h
theorem Fit.int_inv {k : IntKind} {n : Int} (h : Fit (.int k n)) : (Lit.int k n).wf = true := by
  cases h with
  | int _ _ h => exact h
theorem hasAll_cons {s : Sh} {l : List Sh} {cs : List AV} (h : hasAll (s :: l) cs = true) : ∃ c cs', cs = c :: cs' ∧ hasSh s c = true ∧ hasAll l cs' = true := by
  cases cs with
  | nil => simp [hasAll] at h
  | cons c cs' => simp only [hasAll, Bool.and_eq_true] at h; exact ⟨c, cs', rfl, h.1, h.2⟩
theorem hasAll_nil {cs : List AV} (h : hasAll [] cs = true) : cs = [] := by
  cases cs with
  | nil => rfl
  | cons c cs' => simp [hasAll] at h
end Go.Ev
namespace Go.Proofs.YtegeegibnckkkaaDoor
open Go.Ev

def bk (H : Type) : BK H := ⟨Rows.uptoBulk, Rows.uptoBulkAll, fun _ => rfl, fun l => by cases l <;> simp [Rows.uptoBulk], Nat.le_refl _, fun _ => rfl, fun _ _ => rfl, rfl, fun _ _ => rfl⟩
theorem own : ownKnob Tryd.prog.godebug = none := by kernel_rfl

end Go.Proofs.YtegeegibnckkkaaDoor

/-
  Policies that come in.
-/
namespace Go.Proofs.YtegeegibnckkkaaDoor
open Go.Ev

theorem open_rule {v : AV} (h : hasSh sR v = true) (hf : Fit v) : ∃ r k s, v = .agg [.int .i64 r, .int .i64 k, .str s] ∧ small s.length = true := by
  obtain ⟨cs, rfl, hh⟩ := has_agg h
  obtain ⟨c0, cs, rfl, h0, hh⟩ := hass_cons hh
  obtain ⟨c1, cs, rfl, h1, hh⟩ := hass_cons hh
  obtain ⟨c2, cs, rfl, h2, hh⟩ := hass_cons hh
  obtain rfl := hass_nil hh
  obtain ⟨r, rfl⟩ := has_int h0
  obtain ⟨k, rfl⟩ := has_int h1
  obtain ⟨s, rfl⟩ := has_str h2
  exact ⟨r, k, s, rfl, decide_eq_true (hf.agg_inv (.str s) (by simp)).str_inv⟩
def canR (es : List AV) : Prop := ∀ e ∈ es, ∃ r k s, e = AV.agg [.int .i64 r, .int .i64 k, .str s] ∧ small s.length = true
theorem open_pol {v : AV} (h : hasSh sP v = true) (hf : Fit v) : ∃ s rs, v = .agg [.str s, .slv sR rs] ∧ small s.length = true ∧ small rs.length = true ∧ canR rs ∧ (∀ e ∈ rs, hasSh sR e = true) := by
  obtain ⟨cs, rfl, hh⟩ := has_agg h
  obtain ⟨c0, cs, rfl, h0, hh⟩ := hass_cons hh
  obtain ⟨c1, cs, rfl, h1, hh⟩ := hass_cons hh
  obtain rfl := hass_nil hh
  obtain ⟨s, rfl⟩ := has_str h0
  obtain ⟨rs, rfl, hs, hcan, hfit⟩ := has_slice h1 (hf.agg_inv c1 (by simp))
  exact ⟨s, rs, rfl, decide_eq_true (hf.agg_inv (.str s) (by simp)).str_inv, hs, fun e he => open_rule (hcan e he) (hfit e he), hcan⟩
theorem canR_smR {es : List AV} (h : canR es) : smR es = true := List.all_eq_true.2 fun e he => by
  obtain ⟨r, k, s, rfl, hs⟩ := h e he
  exact hs
theorem smP_of {es : List AV} (hc : ∀ e ∈ es, hasSh sP e = true) (hf : ∀ e ∈ es, Fit e) : smP es = true := List.all_eq_true.2 fun e he => by
  obtain ⟨s, rs, rfl, h1, h2, h3, _⟩ := open_pol (hc e he) (hf e he)
  exact and_t h1 (and_t h2 (canR_smR h3))
theorem fit_str {s : List UInt8} (h : Fit (.str s)) : small s.length = true := decide_eq_true h.str_inv
end Go.Proofs.YtegeegibnckkkaaDoor

/-
  A rule at the front of a policy (FirstRuleDecides), in plain Lean.
-/
namespace Go.Proofs.YtegeegibnckkkaaDoor
open Go.Ev

def newR (r : Int) (nm : List UInt8) : AV := .agg [.int .i64 r, .int .i64 2, .str nm]
def newP (E : AV) (r : Int) (nm : List UInt8) : AV := .agg [.str (pS E), .slv sR (newR r nm :: pR E)]
theorem getD_set (es : List AV) (i j : Nat) (x : AV) (hi : i < es.length) : (es.set i x).getD j .unk = if j = i then x else es.getD j .unk := by
  by_cases h : j = i
  · subst h
    rw [if_pos rfl, List.getD, List.getElem?_set_self hi]
    rfl
  · rw [if_neg h, List.getD, List.getElem?_set_ne (by omega), ← List.getD]
theorem pS_set (es : List AV) (i j : Nat) (r : Int) (nm : List UInt8) (hi : i < es.length) : pS ((es.set i (newP (es.getD i .unk) r nm)).getD j .unk) = pS (es.getD j .unk) := by
  rw [getD_set _ _ _ _ hi]
  by_cases h : j = i
  · subst h; rw [if_pos rfl]; rfl
  · rw [if_neg h]
/-- What polsF asks, policy for policy. -/
theorem code_parts {es : List AV} {i : Nat} (h : (codeP es i != 0) = false) : ((polF (pS (es.getD i .unk)) (pR (es.getD i .unk))).1 != 0) = false ∧ dupQ es es i = false := by
  unfold codeP codeQ pf at h
  cases h1 : (polF (pS (es.getD i .unk)) (pR (es.getD i .unk))).1 != 0
  · rw [h1] at h
    cases h2 : dupQ es es i
    · exact ⟨rfl, rfl⟩
    · rw [h2] at h; cases h
  · rw [h1, cond_true, h1] at h; cases h
theorem code_zero {es : List AV} {i : Nat} (h1 : ((polF (pS (es.getD i .unk)) (pR (es.getD i .unk))).1 != 0) = false) (h2 : dupQ es es i = false) : (codeP es i != 0) = false := by
  unfold codeP codeQ pf
  rw [h1, h2]
  rfl
theorem polF_of {s : List UInt8} {es : List AV} (h1 : nmS s = true) (h2 : es.length ≤ 60) (h3 : ∀ e ∈ es, (rcE e != 0) = false) : ((polF s es).1 != 0) = false := by
  unfold polF
  have : badR es = none := findN_of_none fun j _ hj => by
    rw [getD_eq hj]
    exact h3 _ (List.getElem_mem hj)
  rw [h1, decide_eq_false (by omega), this]
  rfl
theorem polsF_of {es : List AV} {d h : List UInt8} (h1 : es.length ≤ 60) (h2 : nmS d = true) (h3 : nmS h = true) (h4 : ∀ i, i < es.length → (codeP es i != 0) = false) : ((polsF es d h).1 != 0) = false := by
  unfold polsF
  have : badP es = none := findN_of_none fun j _ hj => h4 j hj
  rw [decide_eq_false (by omega), this, h2, h3]
  rfl
theorem new_rule {r : Int} {nm : List UInt8} (h1 : inR r 1 4 = true) (h2 : nmS nm = true) : (rcE (newR r nm) != 0) = false := by
  show (ruleC r 2 nm != 0) = false
  unfold ruleC
  rw [h1, h2]
  rfl
theorem pols_new {es : List AV} {d h h0 : List UInt8} {i : Nat} {r : Int} {nm : List UInt8} (hz : ((polsF es d h).1 != 0) = false) (hi : i < es.length) (h1 : inR r 1 4 = true) (h2 : nmS nm = true) (h3 : (pR (es.getD i .unk)).length < 60) (h4 : nmS h0 = true) : ((polsF (es.set i (newP (es.getD i .unk) r nm)) h0 h).1 != 0) = false := by
  obtain ⟨p1, _, p3, p4⟩ := polsF_zero hz
  refine polsF_of (by rw [List.length_set]; exact p1) h4 p3 fun j hj => ?_
  rw [List.length_set] at hj
  obtain ⟨c1, c2⟩ := code_parts (p4 j hj)
  refine code_zero ?_ ?_
  · rw [getD_set _ _ _ _ hi]
    by_cases h : j = i
    · subst h
      rw [if_pos rfl]
      obtain ⟨q1, q2, q3⟩ := polF_zero c1
      refine polF_of q1 (by show (pR (es.getD j .unk)).length + 1 ≤ 60; omega) fun e he => ?_
      rcases List.mem_cons.1 he with rfl | he
      · exact new_rule h1 h2
      · exact q3 e he
    · rw [if_neg h]
      exact c1
  · have : dupQ (es.set i (newP (es.getD i .unk) r nm)) (es.set i (newP (es.getD i .unk) r nm)) j = dupQ es es j := by
      unfold dupQ
      rw [pS_set _ _ _ _ _ hi]
      congr 2
      funext k
      unfold isP
      rw [pS_set _ _ _ _ _ hi]
    rw [this]
    exact c2
theorem dom_ok {es : List AV} {d h : List UInt8} {i : Nat} (hz : ((polsF es d h).1 != 0) = false) (hi : i < es.length) : nmS (pS (es.getD i .unk)) = true ∧ fP (pS (es.getD i .unk)) es 0 = some i := by
  obtain ⟨p1, _, p3, p4⟩ := polsF_zero hz
  obtain ⟨c1, c2⟩ := code_parts (p4 i hi)
  refine ⟨(polF_zero c1).1, ?_⟩
  unfold dupQ at c2
  have hn : findN (fun k => isP (pS (es.getD i .unk)) (es.getD k .unk)) i 0 = none := by
    cases hf : findN (fun k => isP (pS (es.getD i .unk)) (es.getD k .unk)) i 0 with
    | none => rfl
    | some q => rw [hf] at c2; cases c2
  have hno := findN_none hn
  unfold fP
  cases hf : findN (fun k => isP (pS (es.getD i .unk)) (es.getD k .unk)) es.length 0 with
  | none =>
    have := findN_none hf i (Nat.zero_le _) hi
    unfold isP at this
    rw [beq_self_eq_true] at this
    cases this
  | some q =>
    obtain ⟨_, q2, q3, q4⟩ := findN_some hf
    have : ¬ q < i := fun h => by rw [hno q (Nat.zero_le _) h] at q3; cases q3
    have : ¬ i < q := fun h => by
      have := q4 i (Nat.zero_le _) h
      unfold isP at this
      rw [beq_self_eq_true] at this
      cases this
    rw [show q = i by omega]
theorem fP_set (es : List AV) (i : Nat) (r : Int) (nm d : List UInt8) (hi : i < es.length) : fP d (es.set i (newP (es.getD i .unk) r nm)) 0 = fP d es 0 := by
  unfold fP
  rw [List.length_set]
  congr 1
  funext k
  unfold isP
  rw [pS_set _ _ _ _ _ hi]
theorem ruleO_shift (f : List UInt8 → Int → Int × Int) (host : List UInt8) : ∀ (rs : List AV) (i j : Nat) (l : Int), ((ruleO f host rs i l).1.getD (4, 0)).1 = ((ruleO f host rs j l).1.getD (4, 0)).1 ∧ (ruleO f host rs i l).2 = (ruleO f host rs j l).2
  | [], _, _, _ => ⟨rfl, rfl⟩
  | e :: rs, i, j, l => by
    rw [ruleO_cons, ruleO_cons]
    cases rK e == 4
    · cases apB host e
      · exact ruleO_shift f host rs (i + 1) (j + 1) l
      · exact ⟨rfl, rfl⟩
    · cases (f (rS e) l).1 == 0 || (f (rS e) l).1 == 5
      · cases (f (rS e) l).1 == 1
        · exact ruleO_shift f host rs (i + 1) (j + 1) _
        · exact ⟨rfl, rfl⟩
      · exact ⟨rfl, rfl⟩
theorem apB_new (r : Int) (nm h : List UInt8) : apB h (newR r nm) = (h == nm) := by
  show (((2 : Int) == 1 || h == nm) || ((2 : Int) == 3 && sufB h (46 :: nm))) = (h == nm)
  show ((false || h == nm) || (false && _)) = (h == nm)
  rw [Bool.false_or, Bool.false_and, Bool.or_false]
/-- A rule that applies decides. -/
theorem res_yes {es : List AV} {d h : List UInt8} {i : Nat} {r : Int} {nm : List UInt8} (hz : ((polsF es d h).1 != 0) = false) (hi : i < es.length) (hh : (nm == h) = true) : (resN (es.set i (newP (es.getD i .unk) r nm)) h 11 (pS (es.getD i .unk)) 0).1 = r := by
  obtain rfl := eq_of_beq hh
  have hf := (dom_ok hz hi).2
  unfold resN
  rw [fP_set _ _ _ _ _ hi, hf]
  show ((ruleO _ nm (pR ((es.set i (newP (es.getD i .unk) r nm)).getD i .unk)) 0 1).1.getD (4, 0)).1 = r
  rw [getD_set _ _ _ _ hi, if_pos rfl]
  show ((ruleO _ nm (newR r nm :: pR (es.getD i .unk)) 0 1).1.getD (4, 0)).1 = r
  rw [ruleO_cons, apB_new, beq_self_eq_true]
  rfl
/-- A rule that does not apply changes nothing. -/
theorem res_no {es : List AV} {h : List UInt8} {i : Nat} {r : Int} {nm : List UInt8} (hi : i < es.length) (hh : (nm == h) = false) : ∀ (n : Nat), resN (es.set i (newP (es.getD i .unk) r nm)) h n = resN es h n
  | 0 => rfl
  | n + 1 => by
    funext d l
    unfold resN
    rw [fP_set _ _ _ _ _ hi, res_no hi hh n]
    cases fP d es 0 with
    | none => rfl
    | some j =>
      dsimp only
      rw [getD_set _ _ _ _ hi]
      by_cases hj : j = i
      · subst hj
        rw [if_pos rfl]
        have hne : (h == nm) = false := by
          rw [beq_eq_false_iff_ne] at hh ⊢
          exact fun e => hh e.symm
        have e1 : ∀ l', ruleO (resN es h n) h (pR (newP (es.getD j .unk) r nm)) 0 l' = ruleO (resN es h n) h (pR (es.getD j .unk)) 1 l' := fun l' => by
          show ruleO (resN es h n) h (newR r nm :: pR (es.getD j .unk)) 0 l' = _
          rw [ruleO_cons, apB_new, hne]
          rfl
        obtain ⟨s1, s2⟩ := ruleO_shift (resN es h n) h (pR (es.getD j .unk)) 1 0 (l + 1)
        rw [e1, s1, s2]
      · rw [if_neg hj]
end Go.Proofs.YtegeegibnckkkaaDoor

/-
  Policies that include each other in a ring (LoopsEnd): the walk.
-/
namespace Go.Proofs.YtegeegibnckkkaaDoor
open Go.Ev

noncomputable def G5 : Env := { pure := [(16, ofT F16), (17, ofT F17), (12, ofT F12), (13, ofT F13)] }
theorem g5 : GOK Tryd.prog G5 := GOK.also (GOK.also (GOK.also (GOK.also g0 ok13) ok12) ok17) ok16
noncomputable def b5 : Code := ((Tryd.f5.body.map loopsOf).getD []).headD .skip
noncomputable def c5 : Code := ((Tryd.f5.body.map loopsOf).getD []).tail.headD .skip
def nmE (es : List AV) (j : Nat) : List UInt8 := strE (es.getD j .unk)
/-- The policy of a name: all that the next one permits. -/
def polE (es : List AV) (j : Nat) : AV := .agg [.str (nmE es j), .slv sR [.agg [.int .i64 1, .int .i64 4, .str (nmE es ((j + 1) % es.length))]]]
def badE (es : List AV) (j : Nat) : Bool := !nmS (nmE es j) || (hasN (es.take j) (nmE es j)).isSome
def polsE (es : List AV) (i n : Nat) : List AV := (List.range' i (n - i)).map (polE es)
def L5 : List AV → List (Option Row) → Tr LOut
  | [.slv .str es, .str h, .bool false, .own 900, .int .i64 i], [some (.arr false (.agg [.str, .slice (.agg [.int .i64, .int .i64, .str])]) e ps none)] =>
    .gd (cnt es.length i es.length && (Nat.beq e 24 && (decide (es.length ≤ 12 ∧ (ps.length : Int) = i) && es.all fun t => small (strE t).length))) (sT (badE es) es.length
      (fun q => .leaf (.ret, [.slv .str es, .str h, .bool true, .own 900, .int .i64 (q : Nat)], [some (.arr false sP 24 (ps ++ polsE es i.toNat q) none)]))
      (.leaf (.exit 0, [.slv .str es, .str h, .bool false, .own 900, .int .i64 es.length], [some (.arr false sP 24 (ps ++ polsE es i.toNat es.length) none)])) i.toNat)
  | _, _ => .no
def l5 : Ev.Loop := ⟨{ len := 89, slots := [0, 1, 4, 5, 6], rows := [900], homes := [(5, 900, 24)] }, ofL L5⟩
def μ5 (vs : List AV) (_ : List (Option Row)) : Nat := match vs with
  | [.slv _ es, _, _, _, .int _ i] => ((es.length : Int) - i).toNat
  | _ => 0
theorem polsE_step (es : List AV) {j n : Nat} (h : j < n) : polsE es j n = polE es j :: polsE es (j + 1) n := by
  unfold polsE
  rw [show n - j = (n - (j + 1)) + 1 from by omega, List.range'_succ, List.map_cons]
theorem polsE_end (es : List AV) (n : Nat) : polsE es n n = [] := by
  unfold polsE
  rw [Nat.sub_self]
  rfl
def badC (ps es : List AV) (h : List UInt8) (j : Nat) : Bool := (polsF ps (nmE es j) h).1 != 0 || (resN ps h 11 (nmE es j) 0).1 != 5
def M5 : List AV → List (Option Row) → Tr LOut
  | [.slv .str es, .str h, .bool false, .own 900, .int .i64 i], [some (.arr false (.agg [.str, .slice (.agg [.int .i64, .int .i64, .str])]) e ps none)] =>
    .gd (cnt es.length i es.length && (small ps.length && (smP ps && (small h.length && es.all fun t => small (strE t).length)))) (sT (badC ps es h) es.length
      (fun q => .leaf (.ret, [.slv .str es, .str h, .bool false, .own 900, .int .i64 (q : Nat)], [some (.arr false sP e ps none)]))
      (.leaf (.exit 2, [.slv .str es, .str h, .bool false, .own 900, .int .i64 es.length], [some (.arr false sP e ps none)])) i.toNat)
  | _, _ => .no
def m5 : Ev.Loop := ⟨{ len := 89, slots := [0, 1, 4, 5, 7], rows := [900], homes := [(5, 900, 24)] }, ofL M5⟩
theorem loop5 : LoopOK Tryd.prog G5 [(5, l5), (11, m5)] b5 l5 := by
  refine loopT g5.natOK rfl (KOK.nil (by kernel_rfl)) μ5 (fun ρ vs rs k r h => ?_)
  unfold L5 at h
  split at h
  · rename_i es hh i e ps
    obtain ⟨hc, hk⟩ := gd_some h
    simp only [Bool.and_eq_true] at hc
    obtain ⟨hc, he, hd, hS⟩ := hc
    obtain rfl := Nat.eq_of_beq_eq_true he
    obtain ⟨d1, d2⟩ := of_decide_eq_true hd
    obtain ⟨_, hs, j, rfl, hj⟩ := cnt_spec hc
    simp only [Int.toNat_natCast] at hk
    refine Eq.trans (b := bif decide ((↑j : Int) < (↑es.length : Int)) then bif inb (↑j : Int) es.length then bif small (strE (es.getD j AV.unk)).length then bif !nmS (strE (es.getD j AV.unk)) then k Ex.ret [AV.slv Sh.str es, AV.str hh, AV.bool true, AV.own (900 : Nat), AV.int IntKind.i64 (↑j : Int)] [some (Row.arr false (Sh.agg [Sh.str, (Sh.agg [Sh.int IntKind.i64, Sh.int IntKind.i64, Sh.str]).slice]) (24 : Nat) ps none)] else bif slb (0 : Int) (↑j : Int) es.length then bif inb (↑j : Int) es.length then bif small (List.take (j - Int.toNat (0 : Int)) (List.drop (0 : Nat) es)).length then bif (hasN (List.take (j - Int.toNat (0 : Int)) (List.drop (0 : Nat) es)) (strE (es.getD j AV.unk))).isSome then k Ex.ret [AV.slv Sh.str es, AV.str hh, AV.bool true, AV.own (900 : Nat), AV.int IntKind.i64 (↑j : Int)] [some (Row.arr false (Sh.agg [Sh.str, (Sh.agg [Sh.int IntKind.i64, Sh.int IntKind.i64, Sh.str]).slice]) (24 : Nat) ps none)] else bif inb (↑j : Int) es.length then bif decide ((↑es.length : Int) = (0 : Int)) then none else bif inb ((IntKind.i64.wrap ((↑j : Int) + (1 : Int))).tmod (↑es.length : Int)) es.length then bif roomB (ps.length + [AV.agg [AV.str (strE (es.getD j AV.unk)), AV.slv (Sh.agg [Sh.int IntKind.i64, Sh.int IntKind.i64, Sh.str]) [AV.agg [AV.int IntKind.i64 (1 : Int), AV.int IntKind.i64 (4 : Int), AV.str (strE (es.getD ((IntKind.i64.wrap ((↑j : Int) + (1 : Int))).tmod (↑es.length : Int)).toNat AV.unk))]]]].length) (Tryd.prog.bytesOf (24 : Nat)) then bif decide (((↑es.length : Int) - IntKind.i64.wrap ((↑j : Int) + (1 : Int))).toNat < ((↑es.length : Int) - (↑j : Int)).toNat) then bif cnt (↑es.length : Int) (IntKind.i64.wrap ((↑j : Int) + (1 : Int))) es.length && (Nat.beq (24 : Nat) (24 : Nat) && (decide (es.length ≤ (12 : Nat) ∧ (↑(ps ++ [AV.agg [AV.str (strE (es.getD j AV.unk)), AV.slv (Sh.agg [Sh.int IntKind.i64, Sh.int IntKind.i64, Sh.str]) [AV.agg [AV.int IntKind.i64 (1 : Int), AV.int IntKind.i64 (4 : Int), AV.str (strE (es.getD ((IntKind.i64.wrap ((↑j : Int) + (1 : Int))).tmod (↑es.length : Int)).toNat AV.unk))]]]]).length : Int) = IntKind.i64.wrap ((↑j : Int) + (1 : Int))) && es.all fun t => small (strE t).length)) then bif (findN (badE es) es.length (IntKind.i64.wrap ((↑j : Int) + (1 : Int))).toNat).isSome then k Ex.ret [AV.slv Sh.str es, AV.str hh, AV.bool true, AV.own (900 : Nat), AV.int IntKind.i64 (↑((findN (badE es) es.length (IntKind.i64.wrap ((↑j : Int) + (1 : Int))).toNat).getD (0 : Nat)) : Int)] [some (Row.arr false (Sh.agg [Sh.str, (Sh.agg [Sh.int IntKind.i64, Sh.int IntKind.i64, Sh.str]).slice]) (24 : Nat) (ps ++ [AV.agg [AV.str (strE (es.getD j AV.unk)), AV.slv (Sh.agg [Sh.int IntKind.i64, Sh.int IntKind.i64, Sh.str]) [AV.agg [AV.int IntKind.i64 (1 : Int), AV.int IntKind.i64 (4 : Int), AV.str (strE (es.getD ((IntKind.i64.wrap ((↑j : Int) + (1 : Int))).tmod (↑es.length : Int)).toNat AV.unk))]]]] ++ polsE es (IntKind.i64.wrap ((↑j : Int) + (1 : Int))).toNat ((findN (badE es) es.length (IntKind.i64.wrap ((↑j : Int) + (1 : Int))).toNat).getD (0 : Nat))) none)] else k (Ex.exit (0 : Nat)) [AV.slv Sh.str es, AV.str hh, AV.bool false, AV.own (900 : Nat), AV.int IntKind.i64 (↑es.length : Int)] [some (Row.arr false (Sh.agg [Sh.str, (Sh.agg [Sh.int IntKind.i64, Sh.int IntKind.i64, Sh.str]).slice]) (24 : Nat) (ps ++ [AV.agg [AV.str (strE (es.getD j AV.unk)), AV.slv (Sh.agg [Sh.int IntKind.i64, Sh.int IntKind.i64, Sh.str]) [AV.agg [AV.int IntKind.i64 (1 : Int), AV.int IntKind.i64 (4 : Int), AV.str (strE (es.getD ((IntKind.i64.wrap ((↑j : Int) + (1 : Int))).tmod (↑es.length : Int)).toNat AV.unk))]]]] ++ polsE es (IntKind.i64.wrap ((↑j : Int) + (1 : Int))).toNat es.length) none)] else none else none else none else none else none else none else none else none else none else none else k (Ex.exit (0 : Nat)) [AV.slv Sh.str es, AV.str hh, AV.bool false, AV.own (900 : Nat), AV.int IntKind.i64 (↑j : Int)] [some (Row.arr false (Sh.agg [Sh.str, (Sh.agg [Sh.int IntKind.i64, Sh.int IntKind.i64, Sh.str]).slice]) (24 : Nat) ps none)]) (by kernel_rfl) ?_
    rw [← hk]
    have b24 : Tryd.prog.bytesOf 24 ≤ 1000 := of_decide_eq_true (by kernel_rfl)
    by_cases hlt : j < es.length
    · obtain ⟨e1, e2, e3, e4, e5⟩ := cnt_facts hlt hs
      have t1 : List.take (j - Int.toNat 0) (List.drop 0 es) = es.take j := rfl
      have e6 : small (strE (es.getD j .unk)).length = true := List.all_eq_true.1 hS (es.getD j .unk) (by rw [getD_eq hlt]; exact List.getElem_mem hlt)
      have e7 : small (es.take j).length = true := decide_eq_true (by rw [List.length_take]; omega)
      have e8 : slb 0 (j : Int) es.length = true := slb_true (by omega) (by omega) (by omega)
      have m1 : (((j + 1 : Nat) : Int)).tmod (es.length : Int) = (((j + 1) % es.length : Nat) : Int) := (Int.ofNat_tmod (j + 1) es.length).symm
      have m2 : (j + 1) % es.length < es.length := Nat.mod_lt _ (by omega)
      have e9 : inb (((j + 1) % es.length : Nat) : Int) es.length = true := inb_true (by omega) (by omega)
      have z0 : decide ((es.length : Int) = 0) = false := decide_eq_false (by omega)
      have hp : AV.agg [.str (strE (es.getD j .unk)), .slv (.agg [.int .i64, .int .i64, .str]) [.agg [.int .i64 1, .int .i64 4, .str (strE (es.getD ((j + 1) % es.length) .unk))]]] = polE es j := rfl
      have r1 : roomB (ps.length + [polE es j].length) (Tryd.prog.bytesOf 24) = true := roomB_small (by show ps.length + 1 ≤ _; omega) b24
      have g1 : (cnt es.length ((j + 1 : Nat) : Int) es.length && (Nat.beq 24 24 && (decide (es.length ≤ 12 ∧ ((ps ++ [polE es j]).length : Int) = ((j + 1 : Nat) : Int)) && es.all fun t => small (strE t).length))) = true := and_t e4 (and_t rfl (and_t (decide_eq_true ⟨d1, by rw [List.length_append]; show ((ps.length + 1 : Nat) : Int) = _; omega⟩) hS))
      have hb : badE es j = (!nmS (strE (es.getD j .unk)) || (hasN (es.take j) (strE (es.getD j .unk))).isSome) := rfl
      rw [sT_step _ _ _ _ _ hlt, hb]
      simp only [e1, e2, e3, e5, e6, t1, e7, e8, m1, e9, z0, Int.toNat_natCast, hp, r1, g1, cond_true, cond_false]
      cases nmS (strE (es.getD j .unk))
      · show k _ _ [some (Row.arr false sP 24 ps none)] = k _ _ [some (Row.arr false sP 24 (ps ++ polsE es j j) none)]
        rw [polsE_end, List.append_nil]
      · cases (hasN (es.take j) (strE (es.getD j .unk))).isSome
        · unfold sT
          cases hf : findN (badE es) es.length (j + 1) with
          | none =>
            show k _ _ [some (Row.arr false sP 24 (ps ++ [polE es j] ++ polsE es (j + 1) es.length) none)] = k _ _ [some (Row.arr false sP 24 (ps ++ polsE es j es.length) none)]
            rw [polsE_step es hlt, List.append_assoc]
            rfl
          | some q =>
            obtain ⟨hq, _⟩ := findN_some hf
            show k _ _ [some (Row.arr false sP 24 (ps ++ [polE es j] ++ polsE es (j + 1) q) none)] = k _ _ [some (Row.arr false sP 24 (ps ++ polsE es j q) none)]
            rw [polsE_step es (by omega : j < q), List.append_assoc]
            rfl
        · show k _ _ [some (Row.arr false sP 24 ps none)] = k _ _ [some (Row.arr false sP 24 (ps ++ polsE es j j) none)]
          rw [polsE_end, List.append_nil]
    · obtain rfl : j = es.length := by omega
      rw [decide_eq_false (by omega), sT_end]
      show k _ _ [some (Row.arr false sP 24 ps none)] = k _ _ [some (Row.arr false sP 24 (ps ++ polsE es es.length es.length) none)]
      rw [polsE_end, List.append_nil]
  · cases h
theorem loop5b : LoopOK Tryd.prog G5 [(5, l5), (11, m5)] c5 m5 := by
  refine loopT g5.natOK rfl (KOK.nil (by kernel_rfl)) μ5 (fun ρ vs rs k r h => ?_)
  unfold M5 at h
  split at h
  · rename_i es hh i e ps
    obtain ⟨hc, hk⟩ := gd_some h
    simp only [Bool.and_eq_true] at hc
    obtain ⟨hc, h1, h2, h3, hS⟩ := hc
    obtain ⟨_, hs, j, rfl, hj⟩ := cnt_spec hc
    simp only [Int.toNat_natCast] at hk
    refine Eq.trans (b := bif decide ((↑j : Int) < (↑es.length : Int)) then bif inb (↑j : Int) es.length then bif small ps.length && (smP ps && (small (strE (es.getD j AV.unk)).length && small hh.length)) then bif (polsF ps (strE (es.getD j AV.unk)) hh).fst != (0 : Int) then bif (polsF ps (strE (es.getD j AV.unk)) hh).fst != (0 : Int) then k Ex.ret [AV.slv Sh.str es, AV.str hh, AV.bool false, AV.own (900 : Nat), AV.int IntKind.i64 (↑j : Int)] [some (Row.arr false (Sh.agg [Sh.str, (Sh.agg [Sh.int IntKind.i64, Sh.int IntKind.i64, Sh.str]).slice]) e ps none)] else k Ex.ret [AV.slv Sh.str es, AV.str hh, AV.bool false, AV.own (900 : Nat), AV.int IntKind.i64 (↑j : Int)] [some (Row.arr false (Sh.agg [Sh.str, (Sh.agg [Sh.int IntKind.i64, Sh.int IntKind.i64, Sh.str]).slice]) e ps none)] else bif (resN ps hh (11 : Nat) (strE (es.getD j AV.unk)) (0 : Int)).fst != (5 : Int) then k Ex.ret [AV.slv Sh.str es, AV.str hh, AV.bool false, AV.own (900 : Nat), AV.int IntKind.i64 (↑j : Int)] [some (Row.arr false (Sh.agg [Sh.str, (Sh.agg [Sh.int IntKind.i64, Sh.int IntKind.i64, Sh.str]).slice]) e ps none)] else bif decide (((↑es.length : Int) - IntKind.i64.wrap ((↑j : Int) + (1 : Int))).toNat < ((↑es.length : Int) - (↑j : Int)).toNat) then bif cnt (↑es.length : Int) (IntKind.i64.wrap ((↑j : Int) + (1 : Int))) es.length && (small ps.length && (smP ps && (small hh.length && es.all fun t => small (strE t).length))) then bif (findN (badC ps es hh) es.length (IntKind.i64.wrap ((↑j : Int) + (1 : Int))).toNat).isSome then k Ex.ret [AV.slv Sh.str es, AV.str hh, AV.bool false, AV.own (900 : Nat), AV.int IntKind.i64 (↑((findN (badC ps es hh) es.length (IntKind.i64.wrap ((↑j : Int) + (1 : Int))).toNat).getD (0 : Nat)) : Int)] [some (Row.arr false (Sh.agg [Sh.str, (Sh.agg [Sh.int IntKind.i64, Sh.int IntKind.i64, Sh.str]).slice]) e ps none)] else k (Ex.exit (2 : Nat)) [AV.slv Sh.str es, AV.str hh, AV.bool false, AV.own (900 : Nat), AV.int IntKind.i64 (↑es.length : Int)] [some (Row.arr false (Sh.agg [Sh.str, (Sh.agg [Sh.int IntKind.i64, Sh.int IntKind.i64, Sh.str]).slice]) e ps none)] else none else none else none else none else k (Ex.exit (2 : Nat)) [AV.slv Sh.str es, AV.str hh, AV.bool false, AV.own (900 : Nat), AV.int IntKind.i64 (↑j : Int)] [some (Row.arr false (Sh.agg [Sh.str, (Sh.agg [Sh.int IntKind.i64, Sh.int IntKind.i64, Sh.str]).slice]) e ps none)]) (by kernel_rfl) ?_
    rw [← hk]
    by_cases hlt : j < es.length
    · obtain ⟨e1, e2, e3, e4, e5⟩ := cnt_facts hlt hs
      have e6 : small (strE (es.getD j .unk)).length = true := List.all_eq_true.1 hS (es.getD j .unk) (by rw [getD_eq hlt]; exact List.getElem_mem hlt)
      have hb : badC ps es hh j = ((polsF ps (strE (es.getD j .unk)) hh).1 != 0 || (resN ps hh 11 (strE (es.getD j .unk)) 0).1 != 5) := rfl
      have c1 : (small ps.length && (smP ps && (small (strE (es.getD j .unk)).length && small hh.length))) = true := and_t h1 (and_t h2 (and_t e6 h3))
      have c2 : (cnt es.length ((j + 1 : Nat) : Int) es.length && (small ps.length && (smP ps && (small hh.length && es.all fun t => small (strE t).length)))) = true := and_t e4 (and_t h1 (and_t h2 (and_t h3 hS)))
      rw [sT_step _ _ _ _ _ hlt, hb]
      simp only [e1, e2, e3, e5, c1, c2, cond_true, Int.toNat_natCast]
      cases (polsF ps (strE (es.getD j .unk)) hh).1 != 0
      · cases (resN ps hh 11 (strE (es.getD j .unk)) 0).1 != 5 <;> rfl
      · rfl
    · obtain rfl : j = es.length := by omega
      rw [decide_eq_false (by omega), sT_end]
      rfl
  · cases h
theorem okL5 : SumOK Tryd.prog 5 (evF Tryd.prog G5 [(5, l5), (11, m5)] Tryd.f5) := sums g5 Tryd.func5 (bs := [b5, c5]) (by kernel_rfl) (fun b hb => by
  rcases List.mem_cons.1 hb with rfl | hb
  · exact ⟨l5, by kernel_rfl, loop5⟩
  · rcases List.mem_cons.1 hb with rfl | hb
    · exact ⟨m5, by kernel_rfl, loop5b⟩
    · cases hb) fun _ _ _ _ h => h
end Go.Proofs.YtegeegibnckkkaaDoor

namespace Go.Proofs.YtegeegibnckkkaaDoor
open Go.Ev

theorem polsE_len (es : List AV) : (polsE es 0 es.length).length = es.length := by
  unfold polsE
  rw [List.length_map, List.length_range']
  omega
theorem polsE_at (es : List AV) {i : Nat} (h : i < es.length) : (polsE es 0 es.length).getD i .unk = polE es i := by
  rw [getD_eq (by rw [polsE_len]; exact h)]
  unfold polsE
  rw [List.getElem_map, List.getElem_range']
  congr 1
  omega
theorem names_ok {es : List AV} (h : findN (badE es) es.length 0 = none) {i : Nat} (hi : i < es.length) : nmS (nmE es i) = true ∧ ∀ k, k < i → (nmE es k == nmE es i) = false := by
  have hb := findN_none h i (Nat.zero_le _) hi
  unfold badE at hb
  simp only [Bool.or_eq_false_iff, Bool.not_eq_false'] at hb
  refine ⟨hb.1, fun k hk => ?_⟩
  cases hf : hasN (es.take i) (nmE es i) with
  | some q => rw [hf] at hb; cases hb.2
  | none =>
    have := findN_none hf k (Nat.zero_le _) (by rw [List.length_take]; omega)
    unfold isS at this
    rw [getD_eq (by rw [List.length_take]; omega), List.getElem_take, ← getD_eq (by omega)] at this
    exact this
theorem ring_ok {es : List AV} {h d : List UInt8} (hn : findN (badE es) es.length 0 = none) (hl : es.length ≤ 12) (h0 : 0 < es.length) (hh : nmS h = true) (hd : nmS d = true) : ((polsF (polsE es 0 es.length) d h).1 != 0) = false := by
  refine polsF_of (by rw [polsE_len]; omega) hd hh fun i hi => ?_
  rw [polsE_len] at hi
  refine code_zero ?_ ?_
  · rw [polsE_at es hi]
    refine polF_of (names_ok hn hi).1 (by show 1 ≤ 60; omega) fun e he => ?_
    obtain rfl := List.mem_singleton.1 he
    show (ruleC 1 4 (nmE es ((i + 1) % es.length)) != 0) = false
    unfold ruleC
    rw [(names_ok hn (Nat.mod_lt _ h0)).1]
    rfl
  · unfold dupQ
    rw [findN_of_none fun k _ hk => ?_]
    · rfl
    · rw [polsE_at es hi, polsE_at es (by omega)]
      exact (names_ok hn hi).2 k hk
theorem ring_res {es : List AV} {h : List UInt8} (hn : findN (badE es) es.length 0 = none) (hl : es.length ≤ 12) (hh : nmS h = true) : ∀ (n j : Nat) (l : Int), j < es.length → (resN (polsE es 0 es.length) h n (nmE es j) l).1 = 5
  | 0, _, _, _ => rfl
  | n + 1, j, l, hj => by
    have hz := ring_ok (h := h) (d := nmE es j) hn hl (by omega) hh (names_ok hn hj).1
    have hf := (dom_ok (i := j) hz (by rw [polsE_len]; exact hj)).2
    rw [polsE_at es hj] at hf
    have hf' : fP (nmE es j) (polsE es 0 es.length) 0 = some j := hf
    have ih := ring_res hn hl hh n ((j + 1) % es.length) (l + 1) (Nat.mod_lt _ (by omega))
    unfold resN
    rw [hf']
    dsimp only
    rw [polsE_at es hj]
    show (bif decide (l + 1 > 10) then (5, l + 1) else _).1 = (5 : Int)
    cases decide (l + 1 > 10)
    · show ((ruleO (resN (polsE es 0 es.length) h n) h (.agg [.int .i64 1, .int .i64 4, .str (nmE es ((j + 1) % es.length))] :: []) 0 (l + 1)).1.getD (4, 0)).1 = 5
      rw [ruleO_cons]
      show ((bif (resN (polsE es 0 es.length) h n (nmE es ((j + 1) % es.length)) (l + 1)).1 == 0 || (resN (polsE es 0 es.length) h n (nmE es ((j + 1) % es.length)) (l + 1)).1 == 5 then (some (5, 0), _) else _).1.getD (4, 0)).1 = (5 : Int)
      rw [ih]
      rfl
    · rfl
theorem law5 (es : List AV) (h : List UInt8) (hS : (es.all fun t => small (strE t).length) = true) (hs : small es.length = true) (hh : small h.length = true) : evF Tryd.prog G5 [(5, l5), (11, m5)] Tryd.f5 AV [.slv .str es, .str h] some = some (.bool true) := by
  refine Eq.trans (b := bif (↑es.length : Int) == (0 : Int) then some (AV.bool true) else bif decide ((↑es.length : Int) > (12 : Int)) then some (AV.bool true) else bif small h.length then bif !nmS h then some (AV.bool true) else bif cnt (↑es.length : Int) (0 : Int) es.length && (Nat.beq ((5 : Nat), (900 : Nat), (24 : TypeId)).snd.snd (24 : Nat) && (decide (es.length ≤ (12 : Nat) ∧ (↑([] : List AV).length : Int) = (0 : Int)) && es.all fun t => small (strE t).length)) then bif (findN (badE es) es.length (0 : Nat)).isSome then some (AV.bool true) else bif cnt (↑es.length : Int) (0 : Int) es.length && (small ([] ++ polsE es (0 : Nat) es.length).length && (smP ([] ++ polsE es (0 : Nat) es.length) && (small h.length && es.all fun t => small (strE t).length))) then bif (findN (badC ([] ++ polsE es (0 : Nat) es.length) es h) es.length (0 : Nat)).isSome then some (AV.bool false) else some (AV.bool true) else none else none else none) (by kernel_rfl) ?_
  by_cases h0 : es.length = 0
  · rw [h0]; rfl
  rw [show (((es.length : Nat) : Int) == 0) = false from beq_eq_false_iff_ne.2 (by omega)]
  by_cases h12 : (es.length : Int) > 12
  · rw [decide_eq_true h12]; rfl
  rw [decide_eq_false h12, hh]
  cases hn : nmS h
  · rfl
  have g1 : (cnt es.length 0 es.length && (Nat.beq (5, 900, (24 : TypeId)).2.2 24 && (decide (es.length ≤ 12 ∧ (([] : List AV).length : Int) = 0) && es.all fun t => small (strE t).length))) = true := and_t (cnt_zero hs) (and_t rfl (and_t (decide_eq_true ⟨by omega, rfl⟩) hS))
  rw [g1, List.nil_append]
  cases hb : findN (badE es) es.length 0 with
  | some q => rfl
  | none =>
    have hp : smP (polsE es 0 es.length) = true := List.all_eq_true.2 fun e he => by
      obtain ⟨i, hi, rfl⟩ := List.getElem_of_mem he
      rw [polsE_len] at hi
      rw [← getD_eq (by rw [polsE_len]; exact hi), polsE_at es hi]
      have n1 := nm_len (names_ok hb hi).1
      have n2 := nm_len (names_ok hb (Nat.mod_lt (i + 1) (show 0 < es.length by omega))).1
      exact and_t (decide_eq_true (by show (nmE es i).length ≤ _; omega)) (and_t rfl (and_t (decide_eq_true (by show (nmE es ((i + 1) % es.length)).length ≤ _; omega)) rfl))
    have g2 : (cnt es.length 0 es.length && (small (polsE es 0 es.length).length && (smP (polsE es 0 es.length) && (true && es.all fun t => small (strE t).length)))) = true := and_t (cnt_zero hs) (and_t (by rw [polsE_len]; exact hs) (and_t hp (and_t rfl hS)))
    have hc : findN (badC (polsE es 0 es.length) es h) es.length 0 = none := findN_of_none fun j _ hj => by
      unfold badC
      rw [ring_ok hb (by omega) (by omega) hn (names_ok hb hj).1, ring_res hb (by omega) hn 11 j 0 hj]
      rfl
    rw [g2, hc]
    rfl
theorem open_names {es : List AV} (hc : ∀ e ∈ es, hasSh .str e = true) (hf : ∀ e ∈ es, Fit e) : (es.all fun t => small (strE t).length) = true := List.all_eq_true.2 fun e he => by
  obtain ⟨s, rfl⟩ := has_str (hc e he)
  exact fit_str (hf _ he)

theorem spec5 (H : Type) : ∀ ds : List (DataW H), ds.length = Tryd.f5.params.size → Rows.hostsLoopsEndSpec.fn H ds = { results := [.lit (.bool true)], args := ds }
  | [_, _], _ => rfl

set_option maxRecDepth 100000 in
theorem lifted5 (os : Os) (started : os.Started) (H : Type) (enc : TypeId × Value → H) :
    ReturnsInHanded {} Tryd.checked os 5 .any (fun w args => (Rows.hostsLoopsEndSpec.pre enc Tryd.prog Tryd.f5 Rows.hostsLoopsEndRow.domain false w args ∧ laidMetH Tryd.prog Rows.hostsLoopsEndRow.laid w) ∧ sizedMet enc Tryd.prog Tryd.f5 (OpenSpec.ofChange Rows.hostsLoopsEndSpec) false w args)
      (Rows.hostsLoopsEndSpec.post enc Tryd.prog Tryd.f5 false true false false) := by
  refine returnsInHanded_of_change_and (C := Tryd.checked) (X := fun w _ => laidMetH Tryd.prog Rows.hostsLoopsEndRow.laid w) (fun _ _ _ hh h => h.of_heap hh) own started (by kernel_rfl) Tryd.func5
    (ChangeSpec.witness_shaped (enc := enc) (C := Tryd.checked) (os := os) (X := fun w _ => laidMetH Tryd.prog Rows.hostsLoopsEndRow.laid w) false (World.laidAll Tryd.prog os Rows.hostsLoopsEndRow.laid) #[.slice none 0 0, .string ⟨#[]⟩] 8 (World.laidAll_os _ _ _)
      (World.shaped_of_ZipB (by kernel_rfl) (by kernel_rfl)) (by kernel_rfl) (by kernel_rfl) (by kernel_rfl)
      (by rw [MakeChecks.laidMetH_plain _ _ _ (by kernel_rfl)]; exact laidMet_laidAll _ (by kernel_rfl) (by kernel_rfl))) ?_
  intro W base args ds gs before hval hW _ _ _ _
  refine contract_of (bk H) (n := 12) (tb := 4) (F := evF Tryd.prog G5 [(5, l5), (11, m5)] Tryd.f5) (by kernel_rfl) (by kernel_rfl) (by kernel_rfl) rfl (by kernel_rfl) (by kernel_rfl) (spec5 H) (okL5) (fun avs hg => ?_) hval hW
  have hh : hasAll [.slice .str, .str] avs = true := hg.has
  obtain ⟨v0, cs, rfl, h0, hh⟩ := hasAll_cons hh
  obtain ⟨v1, cs, rfl, h1, hh⟩ := hasAll_cons hh
  obtain rfl := hasAll_nil hh
  obtain ⟨es, rfl, hs, hcan, hfit⟩ := has_slice (s := .str) h0 (hg.fit _ (by simp))
  obtain ⟨h, rfl⟩ := has_str h1
  exact law5 es h (open_names hcan hfit) hs (fit_str (hg.fit _ (by simp)))

theorem row_holds5 : Rows.HostsLoopsEndSaid :=
  OpenClaim.holds_of_wide 5 Tryd.f5 rfl rfl rfl rfl rfl rfl rfl ⟨rfl, rfl, rfl, rfl, rfl⟩ rfl rfl rfl rfl rfl (by kernel_rfl) Tryd.func5 (by kernel_rfl)
    (of_decide_eq_true (by kernel_rfl)) (by unfold Func.isWrapper; first | (rw [if_pos (by decide +kernel)]; kernel_rfl) | (rw [if_neg (by decide +kernel)]; exact ⟨rfl, rfl⟩))
    (fun os started H enc _ => lifted5 os started H enc)

theorem loops_end : Rows.HostsLoopsEndCardSaid :=
  Claim7.holds_tied_plain_at .later [] [.data, .pinned] true (true, "a3c251f5752f80002ea6722eb34b424962026897df155e1746afa3423cb18f56") false row_holds5 (fun _ h => by cases h) (by kernel_rfl) (fun _ h => by cases h) hostsLoopsEnd_row_tie rfl ⟨rfl, rfl⟩ (by kernel_rfl) rfl
    (fun f fn hf hfn => by
      obtain rfl : f = 5 := Option.some.inj ((show Tryd.prog.funcNamed "posthouse/posthouselaw5.HostsLoopsEnd" = some 5 by kernel_rfl).symm.trans hf) |>.symm
      obtain rfl : fn = Tryd.f5 := (Option.some.inj (Tryd.func5.symm.trans hfn)).symm
      exact ⟨by kernel_rfl, fun j t ht => by
        have hm : t ∈ Tryd.f5.params.toList := Array.mem_def.1 (Array.mem_of_getElem? ht)
        have hall : (Tryd.f5.params.toList.all fun u => !Tryd.prog.wantsStandIn u) = true := by kernel_rfl
        exact (show Tryd.prog.wantsStandIn t = false by simpa using List.all_eq_true.1 hall t hm)⟩)
    (by kernel_rfl)

end Go.Proofs.YtegeegibnckkkaaDoor
