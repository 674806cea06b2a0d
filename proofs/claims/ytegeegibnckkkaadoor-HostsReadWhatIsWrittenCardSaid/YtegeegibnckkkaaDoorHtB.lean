/-
  HostsReadWhatIsWritten, the tied card: for every input the call returns true, and the arguments read as before; the listed tables read as the program's text lays them.
-/
import Derived.Test.YtegeegibnckkkaaDoorHsG
import Derived.Test.YtegeegibnckkkaaDoorHsQ
import Derived.Test.YtegeegibnckkkaaDoorHsF
import Derived.Test.YtegeegibnckkkaaDoorHsI
import Derived.Test.YtegeegibnckkkaaDoorRows
import Derived.WalkKit
import Derived.ProofKit
import Derived.OpenShut
import Derived.Test.YtegeegibnckkkaaDoorCards
import Derived.Test.YtegeegibnckkkaaDoorTie
import Derived.LaidMore
import Derived.Lay
import Derived.SevenTiedAt
import Derived.Stop.Joined
/-
  Check, and its law.
-/
namespace Go.Proofs.YtegeegibnckkkaaDoor
open Go.Ev

/-! What the policies' fault says of them. -/
theorem polsF_zero {es : List AV} {d h : List UInt8} (hz : ((polsF es d h).1 != 0) = false) : es.length ≤ 60 ∧ nmS d = true ∧ nmS h = true ∧ ∀ i, i < es.length → (codeP es i != 0) = false := by
  unfold polsF at hz
  by_cases h2 : (es.length : Int) > 60
  · rw [decide_eq_true h2] at hz; cases hz
  · rw [decide_eq_false h2] at hz
    cases h3 : badP es with
    | some i =>
      rw [h3] at hz
      obtain ⟨_, hi, hp, _⟩ := findN_some h3
      exfalso
      have hz : (codeP es i != 0) = false := hz
      rw [hz] at hp; cases hp
    | none =>
      rw [h3] at hz
      cases h4 : nmS d
      · rw [h4] at hz; cases hz
      · cases h5 : nmS h
        · rw [h4, h5] at hz; cases hz
        · exact ⟨by omega, rfl, rfl, fun i hi => findN_none h3 i (Nat.zero_le _) hi⟩
theorem smQ_of {es : List AV} (h : ∀ i, i < es.length → (codeP es i != 0) = false) : smQ es = true := by
  refine List.all_eq_true.2 fun e he => ?_
  obtain ⟨i, hi, rfl⟩ := List.getElem_of_mem he
  have hc := h i hi
  rw [← getD_eq hi]
  have hp : ((polF (pS (es.getD i .unk)) (pR (es.getD i .unk))).1 != 0) = false := by
    cases hb : (polF (pS (es.getD i .unk)) (pR (es.getD i .unk))).1 != 0
    · rfl
    · have : codeP es i = (polF (pS (es.getD i .unk)) (pR (es.getD i .unk))).1 := by
        show (bif (polF (pS (es.getD i .unk)) (pR (es.getD i .unk))).1 != 0 then _ else _) = _
        rw [hb]; rfl
      rw [this, hb] at hc; cases hc
  obtain ⟨_, p1, p2⟩ := polF_zero hp
  exact and_t (decide_eq_true (by omega)) (List.all_eq_true.2 fun r hr => decide_eq_true (rcE_zero (p2 r hr)))
noncomputable def GH : Env := { G13 with opens := [(35, ofX (F35 11))] }
theorem gH : GOK Tryd.prog GH := GOK.alsoX g13 (ok35 11)
theorem loop13 : LoopOK Tryd.prog GH [(4, l13)] b13 l13 := by
  refine loopT gH.natOK rfl (KOK.nil (by kernel_rfl)) μ13 (fun ρ vs rs k r h => ?_)
  unfold L13 at h
  split at h
  · rename_i es d h0 es' n i
    obtain ⟨hc, hk⟩ := gd_some h
    simp only [Bool.and_eq_true] at hc
    obtain ⟨hc, hG, hS, hN⟩ := hc
    have hN' : es'.length = es.length := Nat.eq_of_beq_eq_true hN
    have hG' := of_decide_eq_true hG
    obtain ⟨rfl, hs, j, rfl, hj⟩ := cnt_spec hc
    rw [Int.toNat_natCast] at hk
    refine Eq.trans (b := bif decide ((↑j : Int) < (↑es.length : Int)) then bif inb (↑j : Int) es'.length then bif small (pS (es'.getD j AV.unk)).length && (small (pR (es'.getD j AV.unk)).length && smR (pR (es'.getD j AV.unk))) then bif (polF (pS (es'.getD j AV.unk)) (pR (es'.getD j AV.unk))).fst != (0 : Int) then k Ex.ret [AV.slv (Sh.agg [Sh.str, (Sh.agg [Sh.int IntKind.i64, Sh.int IntKind.i64, Sh.str]).slice]) es, AV.str d, AV.str h0, AV.int IntKind.i64 (0 : Int), AV.ptr (1 : Nat) (0 : Nat), AV.slv (Sh.agg [Sh.str, (Sh.agg [Sh.int IntKind.i64, Sh.int IntKind.i64, Sh.str]).slice]) es', AV.int IntKind.i64 (↑es.length : Int), AV.int IntKind.i64 (↑j : Int)] [some (Row.box false [AV.int IntKind.i64 (polF (pS (es'.getD j AV.unk)) (pR (es'.getD j AV.unk))).fst, AV.int IntKind.i64 (↑j : Int)])] else bif slb (0 : Int) (↑j : Int) es.length then bif small (List.take (j - Int.toNat (0 : Int)) (List.drop (0 : Nat) es)).length then bif decide (iZ (fP (pS (es'.getD j AV.unk)) (List.take (j - Int.toNat (0 : Int)) (List.drop (0 : Nat) es)) (0 : Nat)) ≥ (0 : Int)) then k Ex.ret [AV.slv (Sh.agg [Sh.str, (Sh.agg [Sh.int IntKind.i64, Sh.int IntKind.i64, Sh.str]).slice]) es, AV.str d, AV.str h0, AV.int IntKind.i64 (0 : Int), AV.ptr (1 : Nat) (0 : Nat), AV.slv (Sh.agg [Sh.str, (Sh.agg [Sh.int IntKind.i64, Sh.int IntKind.i64, Sh.str]).slice]) es', AV.int IntKind.i64 (↑es.length : Int), AV.int IntKind.i64 (↑j : Int)] [some (Row.box false [AV.int IntKind.i64 (7 : Int), AV.int IntKind.i64 (↑j : Int)])] else bif decide (((↑es.length : Int) - IntKind.i64.wrap ((↑j : Int) + (1 : Int))).toNat < ((↑es.length : Int) - (↑j : Int)).toNat) then bif cnt (↑es.length : Int) (IntKind.i64.wrap ((↑j : Int) + (1 : Int))) es.length && (decide (es.length ≤ (60 : Nat)) && (smP es' && es'.length.beq es.length)) then bif (findN (fun i => codeQ es es' i != (0 : Int)) es.length (IntKind.i64.wrap ((↑j : Int) + (1 : Int))).toNat).isSome then k Ex.ret [AV.slv (Sh.agg [Sh.str, (Sh.agg [Sh.int IntKind.i64, Sh.int IntKind.i64, Sh.str]).slice]) es, AV.str d, AV.str h0, AV.int IntKind.i64 (0 : Int), AV.ptr (1 : Nat) (0 : Nat), AV.slv (Sh.agg [Sh.str, (Sh.agg [Sh.int IntKind.i64, Sh.int IntKind.i64, Sh.str]).slice]) es', AV.int IntKind.i64 (↑es.length : Int), AV.int IntKind.i64 (↑((findN (fun i => codeQ es es' i != (0 : Int)) es.length (IntKind.i64.wrap ((↑j : Int) + (1 : Int))).toNat).getD (0 : Nat)) : Int)] [some (Row.box false [AV.int IntKind.i64 (codeQ es es' ((findN (fun i => codeQ es es' i != (0 : Int)) es.length (IntKind.i64.wrap ((↑j : Int) + (1 : Int))).toNat).getD (0 : Nat))), AV.int IntKind.i64 (↑((findN (fun i => codeQ es es' i != (0 : Int)) es.length (IntKind.i64.wrap ((↑j : Int) + (1 : Int))).toNat).getD (0 : Nat)) : Int)])] else k (Ex.exit (0 : Nat)) [AV.slv (Sh.agg [Sh.str, (Sh.agg [Sh.int IntKind.i64, Sh.int IntKind.i64, Sh.str]).slice]) es, AV.str d, AV.str h0, AV.int IntKind.i64 (0 : Int), AV.ptr (1 : Nat) (0 : Nat), AV.slv (Sh.agg [Sh.str, (Sh.agg [Sh.int IntKind.i64, Sh.int IntKind.i64, Sh.str]).slice]) es', AV.int IntKind.i64 (↑es.length : Int), AV.int IntKind.i64 (↑es.length : Int)] [some (Row.box false [AV.int IntKind.i64 (0 : Int), AV.int IntKind.i64 (0 : Int)])] else none else none else none else none else none else none else k (Ex.exit (0 : Nat)) [AV.slv (Sh.agg [Sh.str, (Sh.agg [Sh.int IntKind.i64, Sh.int IntKind.i64, Sh.str]).slice]) es, AV.str d, AV.str h0, AV.int IntKind.i64 (0 : Int), AV.ptr (1 : Nat) (0 : Nat), AV.slv (Sh.agg [Sh.str, (Sh.agg [Sh.int IntKind.i64, Sh.int IntKind.i64, Sh.str]).slice]) es', AV.int IntKind.i64 (↑es.length : Int), AV.int IntKind.i64 (↑j : Int)] [some (Row.box false [AV.int IntKind.i64 (0 : Int), AV.int IntKind.i64 (0 : Int)])]) (by kernel_rfl) ?_
    rw [← hk]
    by_cases hlt : j < es.length
    · obtain ⟨e1, e2, e3, e4, e5⟩ := cnt_facts hlt hs
      rw [sT_step _ _ _ _ _ hlt]
      obtain ⟨s1, s2, s3⟩ := smP_at hS (show j < es'.length by omega)
      have e6 : inb (j : Int) es'.length = true := inb_true (by omega) (by omega)
      have e7 : slb 0 (j : Int) es.length = true := slb_true (by omega) (by omega) (by omega)
      have e8 : small (es.take j).length = true := decide_eq_true (by rw [List.length_take]; omega)
      have e9 : codeQ es es' j = bif (polF (pS (es'.getD j .unk)) (pR (es'.getD j .unk))).1 != 0 then (polF (pS (es'.getD j .unk)) (pR (es'.getD j .unk))).1 else bif (findN (fun k => isP (pS (es'.getD j .unk)) (es.getD k .unk)) j 0).isSome then 7 else 0 := rfl
      have e10 : List.take (j - Int.toNat 0) (List.drop 0 es) = es.take j := rfl
      rw [e10, dup_take es _ (by omega), iZ_ge]
      simp only [e1, e3, e4, e5, e6, e7, e8, e9, s1, s2, s3, hG, hS, hN, cond_true, Int.toNat_natCast, Bool.and_self]
      generalize (findN (fun k => isP (pS (es'.getD j .unk)) (es.getD k .unk)) j 0).isSome = a2
      cases hp : (polF (pS (es'.getD j .unk)) (pR (es'.getD j .unk))).1 != 0
      · cases a2 <;> rfl
      · simp only [cond_true, hp]
        rfl
    · obtain rfl : j = es.length := by omega
      rw [decide_eq_false (by omega), sT_end]
      rfl
  · cases h
def F13 : List AV → Tr AV
  | [.slv (.agg [.str, .slice (.agg [.int .i64, .int .i64, .str])]) es, .str d, .str h] => .gd (small es.length && (smP es && (small d.length && small h.length))) (.br ((polsF es d h).1 != 0) (.leaf (.tup [.int .i64 0, fault (polsF es d h)])) (.leaf (.tup [.int .i64 (resN es h 11 d 0).1, fault (0, 0)])))
  | _ => .no
theorem ok13 : SumOK Tryd.prog 13 (ofT F13) ∧ SNat (ofT F13) := by
  refine fn1 (K := [(4, l13)]) (b := b13) (l := l13) gH Tryd.func13 (by kernel_rfl) (by kernel_rfl) loop13 fun ρ avs k r h => ?_
  unfold F13 at h
  split at h
  · rename_i es d h0
    obtain ⟨hc, hk⟩ := gd_some h
    simp only [Bool.and_eq_true] at hc
    obtain ⟨h1, h2, h3, h4⟩ := hc
    refine Eq.trans (b := bif decide ((↑es.length : Int) > (60 : Int)) then k (AV.tup [AV.int IntKind.i64 (0 : Int), AV.agg [AV.int IntKind.i64 (2 : Int), AV.int IntKind.i64 (-1 : Int)]]) else bif cnt (↑es.length : Int) (0 : Int) es.length && (decide (es.length ≤ (60 : Nat)) && (smP es && es.length.beq es.length)) then bif (findN (fun i => codeQ es es i != (0 : Int)) es.length (0 : Nat)).isSome then k (AV.tup [AV.int IntKind.i64 (0 : Int), AV.agg [AV.int IntKind.i64 (codeQ es es ((findN (fun i => codeQ es es i != (0 : Int)) es.length (0 : Nat)).getD (0 : Nat))), AV.int IntKind.i64 (↑((findN (fun i => codeQ es es i != (0 : Int)) es.length (0 : Nat)).getD (0 : Nat)) : Int)]]) else bif small d.length then bif !nmS d then k (AV.tup [AV.int IntKind.i64 (0 : Int), AV.agg [AV.int IntKind.i64 (10 : Int), AV.int IntKind.i64 (-2 : Int)]]) else bif small h0.length then bif !nmS h0 then k (AV.tup [AV.int IntKind.i64 (0 : Int), AV.agg [AV.int IntKind.i64 (10 : Int), AV.int IntKind.i64 (-3 : Int)]]) else bif ((fun x => PID + x) (0 : Nat)).beq PID && gRes (11 : Nat) es h0 (0 : Int) then k (AV.tup [AV.int IntKind.i64 (resN es h0 (11 : Nat) d (0 : Int)).fst, AV.agg [AV.int IntKind.i64 (0 : Int), AV.int IntKind.i64 (0 : Int)]]) else none else none else none else none) (by kernel_rfl) ?_
    rw [← hk]
    have hb : findN (fun i => codeQ es es i != 0) es.length 0 = badP es := rfl
    have hcc : ∀ i, codeQ es es i = codeP es i := fun _ => rfl
    have hb0 : ((fun x => PID + x) 0).beq PID = true := Nat.beq_refl PID
    rw [cnt_zero h1, h2, h3, h4, Nat.beq_refl, hb, hcc, hb0]
    show _ = (bif (polsF es d h0).1 != 0 then k (.tup [.int .i64 0, fault (polsF es d h0)]) else k (.tup [.int .i64 (resN es h0 11 d 0).1, fault (0, 0)]))
    cases hz : (polsF es d h0).1 != 0
    · obtain ⟨p1, p2, p3, p4⟩ := polsF_zero hz
      have hn : badP es = none := by
        cases hb1 : badP es with
        | none => rfl
        | some i =>
          obtain ⟨_, hi, hp, _⟩ := findN_some hb1
          have hp : (codeP es i != 0) = true := hp
          rw [p4 i hi] at hp; cases hp
      rw [hn, p2, p3, decide_eq_false (by omega : ¬ (es.length : Int) > 60), decide_eq_true p1, show gRes 11 es h0 0 = true from gRes_to ⟨by omega, by omega, by omega⟩ h1 (smQ_of p4) (by have := nm_len p3; omega)]
      rfl
    · unfold polsF at hz ⊢
      by_cases hl : (es.length : Int) > 60
      · rw [decide_eq_true hl]; rfl
      · rw [decide_eq_false hl] at hz ⊢
        rw [decide_eq_true (by omega : es.length ≤ 60)]
        cases hb2 : (badP es).isSome
        · rw [hb2] at hz
          cases hd : nmS d
          · rfl
          · cases hh : nmS h0
            · rfl
            · rw [hd, hh] at hz; cases hz
        · rfl
  · cases h
end Go.Proofs.YtegeegibnckkkaaDoor

/-
  The small policy is read and applied (hosted).
-/
namespace Go.Proofs.YtegeegibnckkkaaDoor
open Go.Ev

noncomputable def G12 : Env := { pure := [(9, ofT F9), (13, ofT F13), (11, ofT F11), (31, evF Tryd.prog G0 [] Tryd.f31)] }
theorem g12 : GOK Tryd.prog G12 := GOK.also (GOK.also (GOK.also (GOK.also g0 (inl g0 Tryd.func31 (by kernel_rfl))) ok11) ok13) ok9
def F12 : List AV → Tr AV
  | [] => .leaf (.bool true)
  | _ => .no
theorem ok12 : SumOK Tryd.prog 12 (ofT F12) ∧ SNat (ofT F12) := by
  refine fn0 g12 Tryd.func12 (by kernel_rfl) fun ρ avs k r h => ?_
  unfold F12 at h
  split at h
  · have hk := h
    rw [← hk]
    exact (show evF Tryd.prog G12 [] Tryd.f12 ρ [] k = k (.bool true) by kernel_rfl)
  · cases h
end Go.Proofs.YtegeegibnckkkaaDoor

/-
  What a law is called with, taken apart by its shape; the frame of a law's statement.
-/
namespace Go.Ev
theorem has_int {k : IntKind} {v : AV} (h : has1 (.int k) v = true) : ∃ n, v = .int k n := by
  cases v <;> simp [has1] at h
  rename_i k' n
  exact ⟨n, by rw [h]⟩
theorem has_bool {v : AV} (h : has1 .bool v = true) : ∃ b, v = .bool b := by
  cases v <;> simp [has1] at h
  exact ⟨_, rfl⟩
theorem has_str {v : AV} (h : has1 .str v = true) : ∃ s, v = .str s := by
  cases v <;> simp [has1] at h
  exact ⟨_, rfl⟩
theorem has_slice {s : Sh} {v : AV} (h : has1 (.slice s) v = true) (hf : Fit v) : ∃ es, v = .slv s es ∧ small es.length = true ∧ (∀ e ∈ es, hasSh s e = true) ∧ ∀ e ∈ es, Fit e := by
  cases hf with
  | slv s' es hm hs hfe =>
    simp only [has1] at h
    have e := Sh.beq_eq _ _ h
    subst e
    exact ⟨es, rfl, decide_eq_true hm, hs, hfe⟩
  | _ => simp [has1] at h
theorem hass_cons {s : Sh} {l : List Sh} {cs : List AV} (h : hass (s :: l) cs = true) : ∃ c cs', cs = c :: cs' ∧ has1 s c = true ∧ hass l cs' = true := by
  cases cs with
  | nil => simp [hass] at h
  | cons c cs' => simp only [hass, Bool.and_eq_true] at h; exact ⟨c, cs', rfl, h.1, h.2⟩
theorem hass_nil {cs : List AV} (h : hass [] cs = true) : cs = [] := by
  cases cs with
  | nil => rfl
  | cons c cs' => simp [hass] at h
theorem has_agg {l : List Sh} {v : AV} (h : hasSh (.agg l) v = true) : ∃ cs, v = .agg cs ∧ hass l cs = true := by
  cases v <;> simp [hasSh] at h
  exact ⟨_, rfl, h⟩
theorem Fit.agg_inv {cs : List AV} (h : Fit (.agg cs)) : ∀ c ∈ cs, Fit c := by
  cases h with
  | agg _ h => exact h
theorem Fit.str_inv {s : List UInt8} (h : Fit (.str s)) : s.length ≤ 9223372036854775807 := by
  cases h with
  | str _ h => exact h
theorem Fit.int_inv {k : IntKind} {n : Int} (h : Fit (.int k n)) : (Lit.int k n).wf = true := by
  cases h with
  | int _ _ h => exact h
theorem hasAll_cons {s : Sh} {l : List Sh} {cs : List AV} (h : hasAll (s :: l) cs = true) : ∃ c cs', cs = c :: cs' ∧ hasSh s c = true ∧ hasAll l cs' = true := by
  cases cs with
  | nil => simp [hasAll] at h
  | cons c cs' => simp only [hasAll, Bool.and_eq_true] at h; exact ⟨c, cs', rfl, h.1, h.2⟩
theorem hasAll_nil {cs : List AV} (h : hasAll [] cs = true) : cs = [] := by
  cases cs with
  | nil => rfl
  | cons c cs' => simp [hasAll] at h
end Go.Ev
namespace Go.Proofs.YtegeegibnckkkaaDoor
open Go.Ev

def bk (H : Type) : BK H := ⟨Rows.uptoBulk, Rows.uptoBulkAll, fun _ => rfl, fun l => by cases l <;> simp [Rows.uptoBulk], Nat.le_refl _, fun _ => rfl, fun _ _ => rfl, rfl, fun _ _ => rfl⟩
theorem own : ownKnob Tryd.prog.godebug = none := by kernel_rfl

end Go.Proofs.YtegeegibnckkkaaDoor

/-
  Policies that come in.
-/
namespace Go.Proofs.YtegeegibnckkkaaDoor
open Go.Ev

theorem open_rule {v : AV} (h : hasSh sR v = true) (hf : Fit v) : ∃ r k s, v = .agg [.int .i64 r, .int .i64 k, .str s] ∧ small s.length = true := by
  obtain ⟨cs, rfl, hh⟩ := has_agg h
  obtain ⟨c0, cs, rfl, h0, hh⟩ := hass_cons hh
  obtain ⟨c1, cs, rfl, h1, hh⟩ := hass_cons hh
  obtain ⟨c2, cs, rfl, h2, hh⟩ := hass_cons hh
  obtain rfl := hass_nil hh
  obtain ⟨r, rfl⟩ := has_int h0
  obtain ⟨k, rfl⟩ := has_int h1
  obtain ⟨s, rfl⟩ := has_str h2
  exact ⟨r, k, s, rfl, decide_eq_true (hf.agg_inv (.str s) (by simp)).str_inv⟩
def canR (es : List AV) : Prop := ∀ e ∈ es, ∃ r k s, e = AV.agg [.int .i64 r, .int .i64 k, .str s] ∧ small s.length = true
theorem open_pol {v : AV} (h : hasSh sP v = true) (hf : Fit v) : ∃ s rs, v = .agg [.str s, .slv sR rs] ∧ small s.length = true ∧ small rs.length = true ∧ canR rs ∧ (∀ e ∈ rs, hasSh sR e = true) := by
  obtain ⟨cs, rfl, hh⟩ := has_agg h
  obtain ⟨c0, cs, rfl, h0, hh⟩ := hass_cons hh
  obtain ⟨c1, cs, rfl, h1, hh⟩ := hass_cons hh
  obtain rfl := hass_nil hh
  obtain ⟨s, rfl⟩ := has_str h0
  obtain ⟨rs, rfl, hs, hcan, hfit⟩ := has_slice h1 (hf.agg_inv c1 (by simp))
  exact ⟨s, rs, rfl, decide_eq_true (hf.agg_inv (.str s) (by simp)).str_inv, hs, fun e he => open_rule (hcan e he) (hfit e he), hcan⟩
theorem canR_smR {es : List AV} (h : canR es) : smR es = true := List.all_eq_true.2 fun e he => by
  obtain ⟨r, k, s, rfl, hs⟩ := h e he
  exact hs
theorem smP_of {es : List AV} (hc : ∀ e ∈ es, hasSh sP e = true) (hf : ∀ e ∈ es, Fit e) : smP es = true := List.all_eq_true.2 fun e he => by
  obtain ⟨s, rs, rfl, h1, h2, h3, _⟩ := open_pol (hc e he) (hf e he)
  exact and_t h1 (and_t h2 (canR_smR h3))
theorem fit_str {s : List UInt8} (h : Fit (.str s)) : small s.length = true := decide_eq_true h.str_inv
end Go.Proofs.YtegeegibnckkkaaDoor

/-
  What is written is read: a policy's text is cut at its spaces, and each piece is the text of a rule.
-/
namespace Go.Proofs.YtegeegibnckkkaaDoor
open Go.Ev

theorem smI_ne {b : UInt8} (h : smI (b.toNat : Int) = true) : (b == 32) = false := by
  rw [beq_eq_false_iff_ne]
  rintro rfl
  revert h
  decide
theorem nmS_space {s : List UInt8} (h : nmS s = true) : s.all (fun b => !(b == 32)) = true := by
  unfold nmS at h
  simp only [Bool.and_eq_true] at h
  have ha := allN_iff.1 h.1
  refine List.all_eq_true.2 fun b hb => ?_
  obtain ⟨i, hi, rfl⟩ := List.getElem_of_mem hb
  have := ha i hi
  unfold atI at this
  rw [List.getD, List.getElem?_eq_getElem hi] at this
  have hb : (s[i] == 32) = false := smI_ne this
  rw [hb]
  rfl
theorem sign_space (r : Int) : (signS r).all (fun b => !(b == 32)) = true := by
  unfold signS
  cases r == 1 <;> cases r == 2 <;> cases r == 3 <;> rfl
theorem word_space (k : Int) : (wordS k).all (fun b => !(b == 32)) = true := by
  unfold wordS
  cases k == 1 <;> cases k == 2 <;> cases k == 3 <;> rfl
/-- What a rule without a fault is. -/
theorem rule_ok {r k : Int} {s : List UInt8} (h : (ruleC r k s != 0) = false) : inR r 1 4 = true ∧ inR k 1 4 = true ∧ s.all (fun b => !(b == 32)) = true := by
  unfold ruleC at h
  cases h1 : inR r 1 4
  · rw [h1] at h; cases h
  cases h2 : inR k 1 4
  · rw [h1, h2] at h; cases h
  refine ⟨rfl, rfl, ?_⟩
  rw [h1, h2] at h
  cases h3 : k == 1
  · rw [h3] at h
    cases h4 : nmS s
    · rw [h4] at h; cases h
    · exact nmS_space h4
  · rw [h3] at h
    cases h4 : s == []
    · rw [h4] at h; cases h
    · rw [eq_of_beq h4]; rfl
theorem txt_space {e : AV} (h : (rcE e != 0) = false) : (txtE e).all (fun b => !(b == 32)) = true := by
  obtain ⟨_, _, h3⟩ := rule_ok h
  unfold txtE txtS
  rw [List.all_append, List.all_append, sign_space, word_space, h3]
  rfl
theorem partsB_no {u : List UInt8} (h : u.all (fun b => !(b == 32)) = true) : partsB 32 u = [.str u] := by
  unfold partsB
  rw [split_no 32 u h]
  rfl
theorem partsB_at {u l : List UInt8} (h : u.all (fun b => !(b == 32)) = true) : partsB 32 (u ++ 32 :: l) = .str u :: partsB 32 l := by
  unfold partsB
  rw [split_at 32 l u h]
  rfl
theorem parts_text : ∀ (es : List AV) (d : List UInt8), d.all (fun b => !(b == 32)) = true → (∀ e ∈ es, (rcE e != 0) = false) → partsB 32 (d ++ tail es) = AV.str d :: es.map fun e => AV.str (txtE e)
  | [], d, hd, _ => by
    show partsB 32 (d ++ []) = _
    rw [List.append_nil, partsB_no hd]
    rfl
  | e :: es, d, hd, he => by
    have ht : tail (e :: es) = 32 :: (txtE e ++ tail es) := by
      unfold tail
      rw [List.flatMap_cons]
      rfl
    rw [ht, partsB_at hd, parts_text es (txtE e) (txt_space (he e (List.mem_cons_self ..))) fun x hx => he x (List.mem_cons_of_mem _ hx)]
    rfl
theorem preB_self (p s : List UInt8) : preB (p ++ s) p = true := by
  unfold preB
  rw [List.take_append_of_le_length (Nat.le_refl _), List.take_length, beq_self_eq_true, decide_eq_true (by rw [List.length_append]; omega)]
  rfl
theorem fW_word {k : Int} (h : inR k 1 4 = true) (s : List UInt8) : fW (wordS k ++ s) 4 1 = some k := by
  have st : ∀ (n : Nat) (j : Int) (t : List UInt8), fW t (n + 1) j = bif preB t (wordS j) then some j else fW t n (j + 1) := fun _ _ _ => rfl
  have ne : ∀ (a b : UInt8) (t p : List UInt8), (a == b) = false → preB (a :: t) (b :: p) = false := fun a b t p hab => by rw [preB_cons, hab]; rfl
  rcases inR4 h with rfl | rfl | rfl | rfl
  · rw [st, preB_self]; rfl
  · rw [st, show preB (wordS 2 ++ s) (wordS 1) = false from ne _ _ _ _ (by decide), cond_false]
    show fW (wordS 2 ++ s) 3 2 = _
    rw [st, preB_self]; rfl
  · rw [st, show preB (wordS 3 ++ s) (wordS 1) = false from ne _ _ _ _ (by decide), cond_false]
    show fW (wordS 3 ++ s) 3 2 = _
    rw [st, show preB (wordS 3 ++ s) (wordS 2) = false from ne _ _ _ _ (by decide), cond_false]
    show fW (wordS 3 ++ s) 2 3 = _
    rw [st, preB_self]; rfl
  · rw [st, show preB (wordS 4 ++ s) (wordS 1) = false from ne _ _ _ _ (by decide), cond_false]
    show fW (wordS 4 ++ s) 3 2 = _
    rw [st, show preB (wordS 4 ++ s) (wordS 2) = false from (by show preB (105 :: 110 :: _) (105 :: 115 :: _) = false; rw [preB_cons, preB_cons]; rfl), cond_false]
    show fW (wordS 4 ++ s) 2 3 = _
    rw [st, show preB (wordS 4 ++ s) (wordS 3) = false from ne _ _ _ _ (by decide), cond_false]
    show fW (wordS 4 ++ s) 1 4 = _
    rw [st, preB_self]; rfl
theorem drop_word (p s : List UInt8) : (p ++ s).drop p.length = s := List.drop_left
/-- The text of a rule without a fault is read as this rule. -/
theorem read_txt {r k : Int} {s : List UInt8} (h : (ruleC r k s != 0) = false) : okRd (txtS r k s) = true ∧ rO (txtS r k s) = r ∧ kO (txtS r k s) = some k ∧ ((txtS r k s).drop 1).drop (wordS k).length = s := by
  obtain ⟨h1, h2, _⟩ := rule_ok h
  have hz : (ruleC r k s == 0) = true := by simpa using h
  obtain ⟨b, hb, hr⟩ : ∃ b, signS r = [b] ∧ ∀ t, rO (b :: t) = r := by
    rcases inR4 h1 with rfl | rfl | rfl | rfl
    · exact ⟨43, rfl, fun _ => rfl⟩
    · exact ⟨45, rfl, fun _ => rfl⟩
    · exact ⟨126, rfl, fun _ => rfl⟩
    · exact ⟨63, rfl, fun _ => rfl⟩
  have ht : txtS r k s = b :: (wordS k ++ s) := by
    unfold txtS
    rw [hb, List.append_assoc]
    rfl
  have hk : kO (b :: (wordS k ++ s)) = some k := by
    unfold kO
    rw [hr]
    show fK r (wordS k ++ s) 4 1 = some k
    rw [fK_fW, fW_word h2]
    show (bif ruleC r k ((wordS k ++ s).drop (wordS k).length) == 0 then some k else none) = some k
    rw [drop_word, hz]
    rfl
  rw [ht]
  refine ⟨?_, hr _, hk, drop_word _ _⟩
  unfold okRd
  rw [hk]
  rfl
theorem rd_txt {e : AV} (h : (rcE e != 0) = false) : okRd (txtE e) = true ∧ difR e (rdE (AV.str (txtE e))) = false := by
  obtain ⟨h1, h2, h3, h4⟩ := read_txt h
  refine ⟨h1, ?_⟩
  have a1 : rR (rdE (AV.str (txtE e))) = rR e := h2
  have a2 : rK (rdE (AV.str (txtE e))) = rK e := by
    show (kO (txtE e)).getD 0 = rK e
    rw [show kO (txtE e) = some (rK e) from h3]
    rfl
  have a3 : rS (rdE (AV.str (txtE e))) = rS e := by
    show ((txtE e).drop 1).drop (wordS ((kO (txtE e)).getD 0)).length = rS e
    rw [show kO (txtE e) = some (rK e) from h3]
    exact h4
  unfold difR
  rw [a1, a2, a3]
  simp
/-- Parse reads what Print has written. -/
theorem forth {d : List UInt8} {es : List AV} (h : ((polF d es).1 != 0) = false) : nmS (strE ((partsB 32 (d ++ tail es)).getD 0 .unk)) = true ∧ badL ((partsB 32 (d ++ tail es)).drop 1) 0 = none ∧ ((partsB 32 (d ++ tail es)).drop 1).length ≤ 60 ∧ samP d (strE ((partsB 32 (d ++ tail es)).getD 0 .unk)) es (((partsB 32 (d ++ tail es)).drop 1).map rdE) = true := by
  obtain ⟨h1, h2, h3⟩ := polF_zero h
  rw [parts_text es d (nmS_space h1) h3]
  show nmS d = true ∧ badL (es.map fun e => AV.str (txtE e)) 0 = none ∧ (es.map fun e => AV.str (txtE e)).length ≤ 60 ∧ samP d d es ((es.map fun e => AV.str (txtE e)).map rdE) = true
  refine ⟨h1, ?_, by rw [List.length_map]; exact h2, ?_⟩
  · refine findN_of_none fun j _ hj => ?_
    rw [List.length_map] at hj
    rw [getD_eq (by rw [List.length_map]; exact hj), List.getElem_map]
    show (!okRd (txtE es[j])) = false
    rw [(rd_txt (h3 _ (List.getElem_mem hj))).1]
    rfl
  · unfold samP
    rw [beq_self_eq_true, List.length_map, List.length_map, Nat.beq_refl, findN_of_none (p := difI es _) fun j _ hj => ?_]
    · rfl
    · unfold difI
      rw [getD_eq hj, getD_eq (by rw [List.length_map, List.length_map]; exact hj), List.getElem_map, List.getElem_map]
      exact (rd_txt (h3 _ (List.getElem_mem hj))).2
theorem join_split (c : UInt8) : ∀ s : List UInt8, strE ((partsB c s).getD 0 .unk) ++ ((partsB c s).drop 1).flatMap (fun e => c :: strE e) = s
  | [] => rfl
  | b :: l => by
    have ih := join_split c l
    unfold partsB at ih ⊢
    rw [splitB_cons]
    cases hb : b == c
    · cases hs : (splitB c l).1 with
      | nil =>
        rw [hs] at ih
        have ih' : (splitB c l).2 ++ [] = l := ih
        show (b :: (splitB c l).2) ++ [] = b :: l
        rw [List.cons_append, ih']
      | cons x xs =>
        rw [hs] at ih
        have ih' : x ++ (strs xs ++ [AV.str (splitB c l).2]).flatMap (fun e => c :: strE e) = l := ih
        show (b :: x) ++ (strs xs ++ [AV.str (splitB c l).2]).flatMap (fun e => c :: strE e) = b :: l
        rw [List.cons_append, ih']
    · obtain rfl := eq_of_beq hb
      show [] ++ (strs (splitB b l).1 ++ [AV.str (splitB b l).2]).flatMap (fun e => b :: strE e) = b :: l
      rw [List.nil_append]
      have : ∀ ps : List AV, ps ≠ [] → ps.flatMap (fun e => b :: strE e) = b :: (strE (ps.getD 0 .unk) ++ (ps.drop 1).flatMap fun e => b :: strE e) := fun ps hp => by
        cases ps with
        | nil => exact absurd rfl hp
        | cons p ps => rw [List.flatMap_cons]; rfl
      rw [this _ (by simp), ih]
theorem ruleC_sign {r k : Int} {s : List UInt8} (h : (ruleC r k s == 0) = true) : (ruleC r k s != 0) = false := by
  rw [bne, h]; rfl
theorem fK_some {r : Int} {t : List UInt8} : ∀ {n : Nat} {j k : Int}, fK r t n j = some k → hitAt r t k = true
  | 0, _, _, h => by cases h
  | n + 1, j, k, h => by
    have h' : (bif hitAt r t j then some j else fK r t n (j + 1)) = some k := h
    cases hj : hitAt r t j
    · rw [hj] at h'; exact fK_some h'
    · rw [hj] at h'
      obtain rfl := Option.some.inj h'
      exact hj
theorem idx_sign (b : UInt8) (t : List UInt8) (h : inR (rO (b :: t)) 1 4 = true) : signS (rO (b :: t)) = [b] := by
  by_cases h1 : b = 43
  · subst h1; rfl
  by_cases h2 : b = 45
  · subst h2; rfl
  by_cases h3 : b = 126
  · subst h3; rfl
  by_cases h4 : b = 63
  · subst h4; rfl
  rw [rO_none t (beq_eq_false_iff_ne.2 h1) (beq_eq_false_iff_ne.2 h2) (beq_eq_false_iff_ne.2 h3) (beq_eq_false_iff_ne.2 h4)] at h
  cases h
/-- The text of what has been read. -/
theorem txt_rd {e : AV} (h : okRd (strE e) = true) : txtE (rdE e) = strE e ∧ (rcE (rdE e) != 0) = false := by
  unfold okRd at h
  simp only [Bool.and_eq_true] at h
  obtain ⟨h1, h2⟩ := h
  cases hk : kO (strE e) with
  | none => rw [hk] at h2; cases h2
  | some k =>
    have hit : hitAt (rO (strE e)) ((strE e).drop 1) k = true := fK_some hk
    unfold hitAt at hit
    simp only [Bool.and_eq_true] at hit
    obtain ⟨hp, hc⟩ := hit
    have hr : rdE e = .agg [.int .i64 (rO (strE e)), .int .i64 k, .str (((strE e).drop 1).drop (wordS k).length)] := by
      unfold rdE
      rw [hk]
      rfl
    have hc' := ruleC_sign hc
    rw [hr]
    refine ⟨?_, hc'⟩
    show txtS (rO (strE e)) k (((strE e).drop 1).drop (wordS k).length) = strE e
    obtain ⟨r1, _, _⟩ := rule_ok hc'
    cases hs : strE e with
    | nil => rw [hs] at h1; cases h1
    | cons b t =>
      rw [hs] at r1 hp
      unfold txtS
      rw [idx_sign b t r1]
      unfold preB at hp
      simp only [Bool.and_eq_true] at hp
      have hq : t.take (wordS k).length = wordS k := eq_of_beq hp.2
      show [b] ++ wordS k ++ t.drop (wordS k).length = b :: t
      rw [List.append_assoc]
      show b :: (wordS k ++ t.drop (wordS k).length) = b :: t
      rw [show wordS k ++ t.drop (wordS k).length = t.take (wordS k).length ++ t.drop (wordS k).length by rw [hq], List.take_append_drop]
theorem flat_congr {α β : Type} {f g : α → List β} : ∀ {l : List α}, (∀ e ∈ l, f e = g e) → l.flatMap f = l.flatMap g
  | [], _ => rfl
  | a :: l, h => by rw [List.flatMap_cons, List.flatMap_cons, h a (List.mem_cons_self ..), flat_congr fun e he => h e (List.mem_cons_of_mem _ he)]
/-- Print writes what Parse has read. -/
theorem back {s : List UInt8} (h1 : nmS (strE ((partsB 32 s).getD 0 .unk)) = true) (h2 : badL ((partsB 32 s).drop 1) 0 = none) (h3 : ((partsB 32 s).drop 1).length ≤ 60) : ((polF (strE ((partsB 32 s).getD 0 .unk)) (((partsB 32 s).drop 1).map rdE)).1 != 0) = false ∧ strE ((partsB 32 s).getD 0 .unk) ++ tail (((partsB 32 s).drop 1).map rdE) = s := by
  have hok : ∀ e ∈ (partsB 32 s).drop 1, okRd (strE e) = true := fun e he => by
    obtain ⟨i, hi, rfl⟩ := List.getElem_of_mem he
    have := findN_none h2 i (Nat.zero_le _) hi
    rw [getD_eq hi] at this
    simpa using this
  refine ⟨?_, ?_⟩
  · unfold polF
    rw [h1, decide_eq_false (by rw [List.length_map]; omega)]
    have : badR (((partsB 32 s).drop 1).map rdE) = none := findN_of_none fun j _ hj => by
      have hj' := hj
      rw [List.length_map] at hj'
      rw [getD_eq hj, List.getElem_map]
      exact (txt_rd (hok _ (List.getElem_mem hj'))).2
    rw [this]
    rfl
  · have : tail (((partsB 32 s).drop 1).map rdE) = ((partsB 32 s).drop 1).flatMap fun e => 32 :: strE e := by
      unfold tail
      rw [List.flatMap_map]
      exact flat_congr fun e he => by rw [(txt_rd (hok e he)).1]
    rw [this]
    exact join_split 32 s
end Go.Proofs.YtegeegibnckkkaaDoor

namespace Go.Proofs.YtegeegibnckkkaaDoor
open Go.Ev

noncomputable def G8 : Env := { pure := [(9, ofT F9), (19, ofT F19), (11, ofT F11), (12, ofT F12)] }
theorem g8 : GOK Tryd.prog G8 := GOK.also (GOK.also (GOK.also (GOK.also g0 ok12) ok11) ok19) ok9
theorem second8 (s : List UInt8) : (bif decide ((s.length : Int) > (4000 : Int)) then some (AV.bool true) else bif !nmS (strE ((partsB (32 : UInt8) s).getD (0 : Nat) AV.unk)) then some (AV.bool true) else bif (badL (List.drop (1 : Nat) (partsB (32 : UInt8) s)) (0 : Nat)).isSome then some (AV.bool true) else bif decide ((List.drop (1 : Nat) (partsB (32 : UInt8) s)).length > (60 : Nat)) then some (AV.bool true) else bif small (strE ((partsB (32 : UInt8) s).getD (0 : Nat) AV.unk)).length && (small (List.map rdE (List.drop (1 : Nat) (partsB (32 : UInt8) s))).length && smR (List.map rdE (List.drop (1 : Nat) (partsB (32 : UInt8) s)))) then bif (polF (strE ((partsB (32 : UInt8) s).getD (0 : Nat) AV.unk)) (List.map rdE (List.drop (1 : Nat) (partsB (32 : UInt8) s)))).fst != (0 : Int) then bif (polF (strE ((partsB (32 : UInt8) s).getD (0 : Nat) AV.unk)) (List.map rdE (List.drop (1 : Nat) (partsB (32 : UInt8) s)))).fst != (0 : Int) then some (AV.bool false) else bif ![] == s then some (AV.bool false) else some (AV.bool true) else bif decide ((strE ((partsB (32 : UInt8) s).getD (0 : Nat) AV.unk) ++ tail (List.map rdE (List.drop (1 : Nat) (partsB (32 : UInt8) s)))).length > (4000 : Nat)) then some (AV.bool false) else bif !strE ((partsB (32 : UInt8) s).getD (0 : Nat) AV.unk) ++ tail (List.map rdE (List.drop (1 : Nat) (partsB (32 : UInt8) s))) == s then some (AV.bool false) else some (AV.bool true) else none) = some (AV.bool true) := by
  by_cases h1 : (s.length : Int) > 4000
  · rw [decide_eq_true h1]; rfl
  rw [decide_eq_false h1]
  cases h2 : nmS (strE ((partsB 32 s).getD 0 .unk))
  · rfl
  cases h3 : badL ((partsB 32 s).drop 1) 0 with
  | some q => rfl
  | none =>
    by_cases h4 : ((partsB 32 s).drop 1).length > 60
    · rw [decide_eq_true h4]; rfl
    obtain ⟨b1, b2⟩ := back h2 h3 (by omega)
    have hsm : (small (strE ((partsB 32 s).getD 0 AV.unk)).length && (small (((partsB 32 s).drop 1).map rdE).length && smR (((partsB 32 s).drop 1).map rdE))) = true := by
      refine and_t (decide_eq_true (by have := nm_len h2; omega)) (and_t (decide_eq_true (by rw [List.length_map]; omega)) (List.all_eq_true.2 fun e he => ?_))
      obtain ⟨_, _, p3⟩ := polF_zero b1
      exact decide_eq_true (by have := rcE_zero (p3 e he); omega)
    rw [decide_eq_false h4, hsm, b1, b2, decide_eq_false (by omega), beq_self_eq_true]
    rfl
theorem law8 (d : List UInt8) (es : List AV) (s : List UInt8) (hc : (small d.length && (small es.length && smR es)) = true) : evF Tryd.prog G8 [] Tryd.f8 AV [.agg [.str d, .slv sR es], .str s] some = some (.bool true) := by
  refine Eq.trans (b := bif small d.length && (small es.length && smR es) then bif (polF d es).fst != (0 : Int) then bif (polF d es).fst == (0 : Int) then some (AV.bool false) else bif decide ((↑s.length : Int) > (4000 : Int)) then some (AV.bool true) else bif !nmS (strE ((partsB (32 : UInt8) s).getD (0 : Nat) AV.unk)) then some (AV.bool true) else bif (badL (List.drop (1 : Nat) (partsB (32 : UInt8) s)) (0 : Nat)).isSome then some (AV.bool true) else bif decide ((List.drop (1 : Nat) (partsB (32 : UInt8) s)).length > (60 : Nat)) then some (AV.bool true) else bif small (strE ((partsB (32 : UInt8) s).getD (0 : Nat) AV.unk)).length && (small (List.map rdE (List.drop (1 : Nat) (partsB (32 : UInt8) s))).length && smR (List.map rdE (List.drop (1 : Nat) (partsB (32 : UInt8) s)))) then bif (polF (strE ((partsB (32 : UInt8) s).getD (0 : Nat) AV.unk)) (List.map rdE (List.drop (1 : Nat) (partsB (32 : UInt8) s)))).fst != (0 : Int) then bif (polF (strE ((partsB (32 : UInt8) s).getD (0 : Nat) AV.unk)) (List.map rdE (List.drop (1 : Nat) (partsB (32 : UInt8) s)))).fst != (0 : Int) then some (AV.bool false) else bif ![] == s then some (AV.bool false) else some (AV.bool true) else bif decide ((strE ((partsB (32 : UInt8) s).getD (0 : Nat) AV.unk) ++ tail (List.map rdE (List.drop (1 : Nat) (partsB (32 : UInt8) s)))).length > (4000 : Nat)) then some (AV.bool false) else bif !strE ((partsB (32 : UInt8) s).getD (0 : Nat) AV.unk) ++ tail (List.map rdE (List.drop (1 : Nat) (partsB (32 : UInt8) s))) == s then some (AV.bool false) else some (AV.bool true) else none else bif decide ((d ++ tail es).length > (4000 : Nat)) then bif decide ((↑s.length : Int) > (4000 : Int)) then some (AV.bool true) else bif !nmS (strE ((partsB (32 : UInt8) s).getD (0 : Nat) AV.unk)) then some (AV.bool true) else bif (badL (List.drop (1 : Nat) (partsB (32 : UInt8) s)) (0 : Nat)).isSome then some (AV.bool true) else bif decide ((List.drop (1 : Nat) (partsB (32 : UInt8) s)).length > (60 : Nat)) then some (AV.bool true) else bif small (strE ((partsB (32 : UInt8) s).getD (0 : Nat) AV.unk)).length && (small (List.map rdE (List.drop (1 : Nat) (partsB (32 : UInt8) s))).length && smR (List.map rdE (List.drop (1 : Nat) (partsB (32 : UInt8) s)))) then bif (polF (strE ((partsB (32 : UInt8) s).getD (0 : Nat) AV.unk)) (List.map rdE (List.drop (1 : Nat) (partsB (32 : UInt8) s)))).fst != (0 : Int) then bif (polF (strE ((partsB (32 : UInt8) s).getD (0 : Nat) AV.unk)) (List.map rdE (List.drop (1 : Nat) (partsB (32 : UInt8) s)))).fst != (0 : Int) then some (AV.bool false) else bif ![] == s then some (AV.bool false) else some (AV.bool true) else bif decide ((strE ((partsB (32 : UInt8) s).getD (0 : Nat) AV.unk) ++ tail (List.map rdE (List.drop (1 : Nat) (partsB (32 : UInt8) s)))).length > (4000 : Nat)) then some (AV.bool false) else bif !strE ((partsB (32 : UInt8) s).getD (0 : Nat) AV.unk) ++ tail (List.map rdE (List.drop (1 : Nat) (partsB (32 : UInt8) s))) == s then some (AV.bool false) else some (AV.bool true) else none else bif decide ((↑(d ++ tail es).length : Int) > (4000 : Int)) then some (AV.bool false) else bif !nmS (strE ((partsB (32 : UInt8) (d ++ tail es)).getD (0 : Nat) AV.unk)) then some (AV.bool false) else bif (badL (List.drop (1 : Nat) (partsB (32 : UInt8) (d ++ tail es))) (0 : Nat)).isSome then some (AV.bool false) else bif decide ((List.drop (1 : Nat) (partsB (32 : UInt8) (d ++ tail es))).length > (60 : Nat)) then some (AV.bool false) else bif small es.length then bif !samP d (strE ((partsB (32 : UInt8) (d ++ tail es)).getD (0 : Nat) AV.unk)) es (List.map rdE (List.drop (1 : Nat) (partsB (32 : UInt8) (d ++ tail es)))) then some (AV.bool false) else bif decide ((↑s.length : Int) > (4000 : Int)) then some (AV.bool true) else bif !nmS (strE ((partsB (32 : UInt8) s).getD (0 : Nat) AV.unk)) then some (AV.bool true) else bif (badL (List.drop (1 : Nat) (partsB (32 : UInt8) s)) (0 : Nat)).isSome then some (AV.bool true) else bif decide ((List.drop (1 : Nat) (partsB (32 : UInt8) s)).length > (60 : Nat)) then some (AV.bool true) else bif small (strE ((partsB (32 : UInt8) s).getD (0 : Nat) AV.unk)).length && (small (List.map rdE (List.drop (1 : Nat) (partsB (32 : UInt8) s))).length && smR (List.map rdE (List.drop (1 : Nat) (partsB (32 : UInt8) s)))) then bif (polF (strE ((partsB (32 : UInt8) s).getD (0 : Nat) AV.unk)) (List.map rdE (List.drop (1 : Nat) (partsB (32 : UInt8) s)))).fst != (0 : Int) then bif (polF (strE ((partsB (32 : UInt8) s).getD (0 : Nat) AV.unk)) (List.map rdE (List.drop (1 : Nat) (partsB (32 : UInt8) s)))).fst != (0 : Int) then some (AV.bool false) else bif ![] == s then some (AV.bool false) else some (AV.bool true) else bif decide ((strE ((partsB (32 : UInt8) s).getD (0 : Nat) AV.unk) ++ tail (List.map rdE (List.drop (1 : Nat) (partsB (32 : UInt8) s)))).length > (4000 : Nat)) then some (AV.bool false) else bif !strE ((partsB (32 : UInt8) s).getD (0 : Nat) AV.unk) ++ tail (List.map rdE (List.drop (1 : Nat) (partsB (32 : UInt8) s))) == s then some (AV.bool false) else some (AV.bool true) else none else none else none) (by kernel_rfl) ?_
  rw [hc, second8]
  cases hz : (polF d es).1 != 0
  · by_cases hl : (d ++ tail es).length > 4000
    · rw [decide_eq_true hl]; rfl
    · obtain ⟨f1, f2, f3, f4⟩ := forth hz
      simp only [Bool.and_eq_true] at hc
      rw [decide_eq_false hl, decide_eq_false (by omega), f1, f2, decide_eq_false (by omega), f4, hc.2.1]
      rfl
  · rw [show ((polF d es).1 == 0) = false from by simpa using hz]
    rfl
theorem okL8 : SumOK Tryd.prog 8 (evF Tryd.prog G8 [] Tryd.f8) := sum0 g8 Tryd.func8 (by kernel_rfl) fun _ _ _ _ h => h

theorem spec8 (H : Type) : ∀ ds : List (DataW H), ds.length = Tryd.f8.params.size → Rows.hostsReadWhatIsWrittenSpec.fn H ds = { results := [.lit (.bool true)], args := ds }
  | [_, _], _ => rfl

set_option maxRecDepth 100000 in
theorem lifted8 (os : Os) (started : os.Started) (H : Type) (enc : TypeId × Value → H) :
    ReturnsInHanded {} Tryd.checked os 8 .any (fun w args => (Rows.hostsReadWhatIsWrittenSpec.pre enc Tryd.prog Tryd.f8 Rows.hostsReadWhatIsWrittenRow.domain false w args ∧ laidMetH Tryd.prog Rows.hostsReadWhatIsWrittenRow.laid w) ∧ sizedMet enc Tryd.prog Tryd.f8 (OpenSpec.ofChange Rows.hostsReadWhatIsWrittenSpec) false w args)
      (Rows.hostsReadWhatIsWrittenSpec.post enc Tryd.prog Tryd.f8 false true false false) := by
  refine returnsInHanded_of_change_and (C := Tryd.checked) (X := fun w _ => laidMetH Tryd.prog Rows.hostsReadWhatIsWrittenRow.laid w) (fun _ _ _ hh h => h.of_heap hh) own started (by kernel_rfl) Tryd.func8
    (ChangeSpec.witness_shaped (enc := enc) (C := Tryd.checked) (os := os) (X := fun w _ => laidMetH Tryd.prog Rows.hostsReadWhatIsWrittenRow.laid w) false (World.laidAll Tryd.prog os Rows.hostsReadWhatIsWrittenRow.laid) #[.agg #[.string ⟨#[]⟩, .slice none 0 0], .string ⟨#[]⟩] 8 (World.laidAll_os _ _ _)
      (World.shaped_of_ZipB (by kernel_rfl) (by kernel_rfl)) (by kernel_rfl) (by kernel_rfl) (by kernel_rfl)
      (by rw [MakeChecks.laidMetH_plain _ _ _ (by kernel_rfl)]; exact laidMet_laidAll _ (by kernel_rfl) (by kernel_rfl))) ?_
  intro W base args ds gs before hval hW _ _ _ _
  refine contract_of (bk H) (n := 12) (tb := 4) (F := evF Tryd.prog G8 [] Tryd.f8) (by kernel_rfl) (by kernel_rfl) (by kernel_rfl) rfl (by kernel_rfl) (by kernel_rfl) (spec8 H) (okL8) (fun avs hg => ?_) hval hW
  have hh : hasAll [sP, .str] avs = true := hg.has
  obtain ⟨v0, cs, rfl, h0, hh⟩ := hasAll_cons hh
  obtain ⟨v1, cs, rfl, h1, hh⟩ := hasAll_cons hh
  obtain rfl := hasAll_nil hh
  obtain ⟨d, es, rfl, h1', h2, h3, _⟩ := open_pol h0 (hg.fit _ (by simp))
  obtain ⟨s, rfl⟩ := has_str h1
  exact law8 d es s (and_t h1' (and_t h2 (canR_smR h3)))

theorem row_holds8 : Rows.HostsReadWhatIsWrittenSaid :=
  OpenClaim.holds_of_wide 8 Tryd.f8 rfl rfl rfl rfl rfl rfl rfl ⟨rfl, rfl, rfl, rfl, rfl⟩ rfl rfl rfl rfl rfl (by kernel_rfl) Tryd.func8 (by kernel_rfl)
    (of_decide_eq_true (by kernel_rfl)) (by unfold Func.isWrapper; first | (rw [if_pos (by decide +kernel)]; kernel_rfl) | (rw [if_neg (by decide +kernel)]; exact ⟨rfl, rfl⟩))
    (fun os started H enc _ => lifted8 os started H enc)

theorem read_what_is_written : Rows.HostsReadWhatIsWrittenCardSaid :=
  Claim7.holds_tied_plain_at .later [] [.data, .pinned] true (true, "a3c251f5752f80002ea6722eb34b424962026897df155e1746afa3423cb18f56") false row_holds8 (fun _ h => by cases h) (by kernel_rfl) (fun _ h => by cases h) hostsReadWhatIsWritten_row_tie rfl ⟨rfl, rfl⟩ (by kernel_rfl) rfl
    (fun f fn hf hfn => by
      obtain rfl : f = 8 := Option.some.inj ((show Tryd.prog.funcNamed "posthouse/posthouselaw5.HostsReadWhatIsWritten" = some 8 by kernel_rfl).symm.trans hf) |>.symm
      obtain rfl : fn = Tryd.f8 := (Option.some.inj (Tryd.func8.symm.trans hfn)).symm
      exact ⟨by kernel_rfl, fun j t ht => by
        have hm : t ∈ Tryd.f8.params.toList := Array.mem_def.1 (Array.mem_of_getElem? ht)
        have hall : (Tryd.f8.params.toList.all fun u => !Tryd.prog.wantsStandIn u) = true := by kernel_rfl
        exact (show Tryd.prog.wantsStandIn t = false by simpa using List.all_eq_true.1 hall t hm)⟩)
    (by kernel_rfl)

end Go.Proofs.YtegeegibnckkkaaDoor
