/-
  The classifier: a list of at most one number is sorted.
-/
import Derived.Test.YtpgaobdgohlegaaClB
namespace Go.Proofs.Ytpgaobdgohlegaa
open Go.Ev

noncomputable def b45 : Code := ((Try.f45.body.map loopsOf).getD []).headD .skip
noncomputable def c45 : Code := ((Try.f45.body.map loopsOf).getD []).tail.headD .skip
def L45 : List AV → List (Option Row) → Tr LOut
  | [.own p, .int .i64 a, .int .i64 b, .fn 25 [], .int .i64 i], [some (.arr false (.int .i64) e es sp)] => .gd (Nat.beq p PID && decide (b ≤ i)) (.leaf (.exit 0, [.own PID, .int .i64 a, .int .i64 b, .fn 25 [], .int .i64 i], [some (.arr false (.int .i64) e es sp)]))
  | _, _ => .no
def l45 : Ev.Loop := ⟨{ len := 53, slots := [0, 1, 2, 3, 8], rows := [PID] }, ofL L45⟩
def m45 : Ev.Loop := ⟨{ len := 53, slots := [] }, ofL fun _ _ => .no⟩
theorem noLoop45 : LoopOK Try.prog G0 [(1, l45), (4, m45)] c45 m45 := loopNo g0.natOK rfl (KOK.nil (by kernel_rfl))
theorem loop45 : LoopOK Try.prog G0 [(1, l45), (4, m45)] b45 l45 := by
  refine loopT g0.natOK rfl (KOK.one (b := c45) (by kernel_rfl) (by kernel_rfl) noLoop45) (fun _ _ => 0) (fun ρ vs rs k r h => ?_)
  unfold L45 at h
  split at h
  · rename_i p a b i e es sp
    obtain ⟨hc, hk⟩ := gd_some h
    simp only [Bool.and_eq_true] at hc
    obtain rfl := Nat.eq_of_beq_eq_true hc.1
    have hb := of_decide_eq_true hc.2
    refine Eq.trans (b := bif decide (i < b) then none else k (Ex.exit (0 : Nat)) [AV.own (1125899906842624 : Nat), AV.int IntKind.i64 a, AV.int IntKind.i64 b, AV.fn (25 : Nat) [], AV.int IntKind.i64 i] [some (Row.arr false (Sh.int IntKind.i64) e es sp)]) (by kernel_rfl) ?_
    rw [← hk, decide_eq_false (by omega)]
    rfl
  · cases h
def F45 : List AV → List Row → Tr XOut
  | [.own p, .int .i64 a, .int .i64 b, .fn 25 []], [.arr false (.int .i64) e es _] => .gd (Nat.beq p PID && decide (0 ≤ a ∧ a ≤ 1000 ∧ b ≤ a + 1)) (.leaf (.tup [], [some (.arr false (.int .i64) e es none)], []))
  | _, _ => .no
theorem ok45 : XOK Try.prog 45 (ofX F45) ∧ XNat (ofX F45) := by
  refine ⟨xsums (K := [(1, l45), (4, m45)]) (H := []) (bs := [b45, c45]) g0 Try.func45 (by kernel_rfl) (fun b hb => ?_) fun ρ avs rows k r h => ?_, xnat_ofX _⟩
  · rcases List.mem_cons.1 hb with rfl | hb
    · exact ⟨l45, by kernel_rfl, loop45⟩
    · rcases List.mem_cons.1 hb with rfl | hb
      · exact ⟨m45, by kernel_rfl, noLoop45⟩
      · cases hb
  change (F45 avs rows).run _ = some r at h
  unfold F45 at h
  split at h
  · rename_i p a b e es csp
    obtain ⟨hc, hk⟩ := gd_some h
    simp only [Bool.and_eq_true] at hc
    obtain rfl := Nat.eq_of_beq_eq_true hc.1
    obtain ⟨c1, c2, c3⟩ := of_decide_eq_true hc.2
    refine ⟨by simp, fun rows' hsp => ?_⟩
    obtain ⟨sp, rfl⟩ : ∃ sp, rows' = [.arr false (.int .i64) e es (some sp)] := by
      match rows', hsp with
      | [r1], ⟨⟨sp, h1, _⟩, _⟩ => exact ⟨sp, by rw [h1]⟩
    refine Eq.trans (b := bif PID.beq PID && decide (b ≤ IntKind.i64.wrap (a + (1 : Int))) then k (AV.tup []) [some (Row.arr false (Sh.int IntKind.i64) e es none)] [] else none) (by kernel_rfl) ?_
    rw [← hk, wrap_mid _ (by omega) (by omega)]
    exact cond_t (and_t (Nat.beq_refl _) (decide_eq_true (by omega)))
  · cases h
noncomputable def G40 : Env := { pure := [], opens := [(45, ofX F45)] }
theorem g40 : GOK Try.prog G40 := GOK.alsoX g0 ok45
noncomputable def b40 : Code := ((Try.f40.body.map loopsOf).getD []).headD .skip
noncomputable def c40 : Code := ((Try.f40.body.map loopsOf).getD []).tail.headD .skip
noncomputable def d40 : Code := ((Try.f40.body.map loopsOf).getD []).tail.tail.headD .skip
def L40 : List AV → List (Option Row) → Tr LOut
  | [.own p, .int .i64 n, .fn 25 [], .int .i64 bz, .int .i64 a, .int .i64 b], [some (.arr false (.int .i64) e es sp)] => .gd (Nat.beq p PID && decide (n < b)) (.leaf (.exit 0, [.own PID, .int .i64 n, .fn 25 [], .int .i64 bz, .int .i64 a, .int .i64 b], [some (.arr false (.int .i64) e es sp)]))
  | _, _ => .no
def M40 : List AV → List (Option Row) → Tr LOut
  | [.own p, .int .i64 n, .fn 25 [], .int .i64 bz, .int .i64 a, .int .i64 b], [some (.arr false (.int .i64) e es sp)] => .gd (Nat.beq p PID && decide (n ≤ bz)) (.leaf (.exit 2, [.own PID, .int .i64 n, .fn 25 [], .int .i64 bz, .int .i64 a, .int .i64 b], [some (.arr false (.int .i64) e es sp)]))
  | _, _ => .no
def l40 : Ev.Loop := ⟨{ len := 63, slots := [0, 1, 2, 6, 7, 8], rows := [PID] }, ofL L40⟩
def m40 : Ev.Loop := ⟨{ len := 63, slots := [0, 1, 2, 6, 7, 8], rows := [PID] }, ofL M40⟩
def n40 : Ev.Loop := ⟨{ len := 63, slots := [] }, ofL fun _ _ => .no⟩
theorem noLoop40 : LoopOK Try.prog G40 [(2, l40), (7, m40), (9, n40)] d40 n40 := loopNo g40.natOK rfl (KOK.nil (by kernel_rfl))
theorem loop40 : LoopOK Try.prog G40 [(2, l40), (7, m40), (9, n40)] b40 l40 := by
  refine loopT g40.natOK rfl (KOK.nil (by kernel_rfl)) (fun _ _ => 0) (fun ρ vs rs k r h => ?_)
  unfold L40 at h
  split at h
  · rename_i p n bz a b e es sp
    obtain ⟨hc, hk⟩ := gd_some h
    simp only [Bool.and_eq_true] at hc
    obtain rfl := Nat.eq_of_beq_eq_true hc.1
    have hb := of_decide_eq_true hc.2
    refine Eq.trans (b := bif decide (b ≤ n) then bif ((fun x => PID + x) (0 : Nat)).beq PID && decide ((0 : Int) ≤ a ∧ a ≤ (1000 : Int) ∧ b ≤ a + (1 : Int)) then none else none else k (Ex.exit (0 : Nat)) [AV.own (1125899906842624 : Nat), AV.int IntKind.i64 n, AV.fn (25 : Nat) [], AV.int IntKind.i64 bz, AV.int IntKind.i64 a, AV.int IntKind.i64 b] [some (Row.arr false (Sh.int IntKind.i64) e es sp)]) (by kernel_rfl) ?_
    rw [← hk, decide_eq_false (by omega)]
    rfl
  · cases h
theorem loop40b : LoopOK Try.prog G40 [(2, l40), (7, m40), (9, n40)] c40 m40 := by
  refine loopT g40.natOK rfl (KOK.one (b := d40) (by kernel_rfl) (by kernel_rfl) noLoop40) (fun _ _ => 0) (fun ρ vs rs k r h => ?_)
  unfold M40 at h
  split at h
  · rename_i p n bz a b e es sp
    obtain ⟨hc, hk⟩ := gd_some h
    simp only [Bool.and_eq_true] at hc
    obtain rfl := Nat.eq_of_beq_eq_true hc.1
    have hb := of_decide_eq_true hc.2
    refine Eq.trans (b := bif decide (bz < n) then none else k (Ex.exit (2 : Nat)) [AV.own (1125899906842624 : Nat), AV.int IntKind.i64 n, AV.fn (25 : Nat) [], AV.int IntKind.i64 bz, AV.int IntKind.i64 a, AV.int IntKind.i64 b] [some (Row.arr false (Sh.int IntKind.i64) e es sp)]) (by kernel_rfl) ?_
    rw [← hk, decide_eq_false (by omega)]
    rfl
  · cases h
def F40 : List AV → List Row → Tr XOut
  | [.own p, .int .i64 n, .fn 25 []], [.arr false (.int .i64) e es _] => .gd (Nat.beq p PID && decide (n ≤ 1)) (.leaf (.tup [], [some (.arr false (.int .i64) e es none)], []))
  | _, _ => .no
theorem ok40 : XOK Try.prog 40 (ofX F40) ∧ XNat (ofX F40) := by
  refine ⟨xsums (K := [(2, l40), (7, m40), (9, n40)]) (H := []) (bs := [b40, c40, d40]) g40 Try.func40 (by kernel_rfl) (fun b hb => ?_) fun ρ avs rows k r h => ?_, xnat_ofX _⟩
  · rcases List.mem_cons.1 hb with rfl | hb
    · exact ⟨l40, by kernel_rfl, loop40⟩
    · rcases List.mem_cons.1 hb with rfl | hb
      · exact ⟨m40, by kernel_rfl, loop40b⟩
      · rcases List.mem_cons.1 hb with rfl | hb
        · exact ⟨n40, by kernel_rfl, noLoop40⟩
        · cases hb
  change (F40 avs rows).run _ = some r at h
  unfold F40 at h
  split at h
  · rename_i p n e es csp
    obtain ⟨hc, hk⟩ := gd_some h
    simp only [Bool.and_eq_true] at hc
    obtain rfl := Nat.eq_of_beq_eq_true hc.1
    have c1 := of_decide_eq_true hc.2
    refine ⟨by simp, fun rows' hsp => ?_⟩
    obtain ⟨sp, rfl⟩ : ∃ sp, rows' = [.arr false (.int .i64) e es (some sp)] := by
      match rows', hsp with
      | [r1], ⟨⟨sp, h1, _⟩, _⟩ => exact ⟨sp, by rw [h1]⟩
    refine Eq.trans (b := bif PID.beq PID && decide (n < (20 : Int)) then bif ((fun x => PID + x) (0 : Nat)).beq PID && decide ((0 : Int) ≤ (0 : Int) ∧ (0 : Int) ≤ (1000 : Int) ∧ n ≤ (0 : Int) + (1 : Int)) then bif PID.beq PID && decide (n ≤ (20 : Int)) then k (AV.tup []) [some (Row.arr false (Sh.int IntKind.i64) e es none)] [] else none else none else none) (by kernel_rfl) ?_
    rw [← hk]
    refine Eq.trans (cond_t (and_t (Nat.beq_refl _) (decide_eq_true (by omega)))) (Eq.trans (cond_t (and_t rfl (decide_eq_true (by omega)))) (cond_t (and_t (Nat.beq_refl _) (decide_eq_true (by omega)))))
  · cases h
noncomputable def G24 : Env := { pure := [], opens := [(40, ofX F40)] }
theorem g24 : GOK Try.prog G24 := GOK.alsoX g0 ok40
def F24 : List AV → List Row → Tr XOut
  | [.own p, .fn 25 []], [.arr false (.int .i64) e es _] => .gd (Nat.beq p PID && decide (es.length ≤ 1)) (.leaf (.tup [], [some (.arr false (.int .i64) e es none)], []))
  | _, _ => .no
theorem ok24 : XOK Try.prog 24 (ofX F24) ∧ XNat (ofX F24) := by
  refine ⟨xsum0 (H := []) g24 Try.func24 (by kernel_rfl) fun ρ avs rows k r h => ?_, xnat_ofX _⟩
  change (F24 avs rows).run _ = some r at h
  unfold F24 at h
  split at h
  · rename_i p e es csp
    obtain ⟨hc, hk⟩ := gd_some h
    simp only [Bool.and_eq_true] at hc
    obtain rfl := Nat.eq_of_beq_eq_true hc.1
    have c1 := of_decide_eq_true hc.2
    refine ⟨by simp, fun rows' hsp => ?_⟩
    obtain ⟨sp, rfl⟩ : ∃ sp, rows' = [.arr false (.int .i64) e es (some sp)] := by
      match rows', hsp with
      | [r1], ⟨⟨sp, h1, _⟩, _⟩ => exact ⟨sp, by rw [h1]⟩
    refine Eq.trans (b := bif ((fun x => PID + x) (0 : Nat)).beq PID && decide ((↑es.length : Int) ≤ (1 : Int)) then k (AV.tup []) [some (Row.arr false (Sh.int IntKind.i64) e es none)] [] else none) (by kernel_rfl) ?_
    rw [← hk]
    exact cond_t (and_t rfl (decide_eq_true (by omega)))
  · cases h
end Go.Proofs.Ytpgaobdgohlegaa
