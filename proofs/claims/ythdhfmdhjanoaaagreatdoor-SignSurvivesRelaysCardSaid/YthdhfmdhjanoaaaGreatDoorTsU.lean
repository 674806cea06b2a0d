/-
  The values of signatures and of seals: the functions.
-/
import Derived.Test.YthdhfmdhjanoaaaGreatDoorTsQ
import Derived.Lib.AppendZerosOnto
import Derived.Lib.SliceRun
import Derived.Lib.Walk

namespace Go.Proofs.YthdhfmdhjanoaaaGreatDoor
open Go.Ev
def sgF : List UInt8 := [77, 97, 105, 108, 45, 83, 105, 103, 110, 97, 116, 117, 114, 101]
def sgL : List UInt8 := [109, 97, 105, 108, 45, 115, 105, 103, 110, 97, 116, 117, 114, 101]
def wrB (s : List UInt8) : Bool := !nmS s || eqF s sgF
theorem nm_low {s : List UInt8} (h : nmS s = true) : lowS s = s := by
  rw [← small_name] at h
  simp only [Bool.and_eq_true, beq_iff_eq] at h
  exact h.2
theorem wrB_eq (s : List UInt8) : wrB s = (!nmS s || s == sgL) := by
  unfold wrB
  cases h : nmS s
  · rfl
  · have hl := nm_low h
    have e2 : lowS sgF = sgL := by decide
    unfold eqF
    rw [hl, e2]
    cases hs : s == sgL
    · rw [Bool.and_false]
    · have : s = sgL := by simpa using hs
      rw [this]; rfl
noncomputable def G73 : Env := { pure := [(42, ofT F19), (53, ofT F53)] }
theorem g73 : GOK Tryz.prog G73 := GOK.also (GOK.also g0 ok53) ok42'
def F73 : List AV → Tr AV
  | [.str s] => .gd (small s.length) (.leaf (.bool (wrB s)))
  | _ => .no
theorem ok73 : SumOK Tryz.prog 73 (ofT F73) ∧ SNat (ofT F73) := by
  refine fn0 g73 Tryz.func73 (by kernel_rfl) fun ρ avs k r h => ?_
  unfold F73 at h
  split at h
  · rename_i s
    obtain ⟨hc, hk⟩ := gd_some h
    refine Eq.trans (b := bif small s.length then bif !nmS s then k (AV.bool true) else bif small s.length && small ([77, 97, 105, 108, 45, 83, 105, 103, 110, 97, 116, 117, 114, 101] : List UInt8).length then k (AV.bool (eqF s ([77, 97, 105, 108, 45, 83, 105, 103, 110, 97, 116, 117, 114, 101] : List UInt8))) else none else none) (by kernel_rfl) ?_
    rw [← hk, hc]
    unfold wrB
    cases nmS s <;> rfl
  · cases h
def wrE (ns : List AV) (i : Nat) : Bool := wrB (sE (ns.getD i .unk))
theorem okN_s {ns : List AV} (h : ns.all okN = true) {j : Nat} (hj : j < ns.length) : small (sE (ns.getD j .unk)).length = true := by
  have := List.all_eq_true.1 h (ns.getD j .unk) (by rw [getD_eq hj]; exact List.getElem_mem hj)
  unfold okN at this
  simp only [Bool.and_eq_true] at this
  exact this.2
noncomputable def G93 : Env := { pure := [(73, ofT F73)] }
theorem g93 : GOK Tryz.prog G93 := GOK.also g0 ok73
noncomputable def b93 : Code := ((Tryz.f93.body.map loopsOf).getD []).headD .skip
def L93 : List AV → List (Option Row) → Tr LOut
  | [.slv .str ns, .fn 73 [], .int .i64 z, .int .i64 n, .int .i64 i], [] =>
    .gd (cnt n i ns.length && ns.all okN) (sT (wrE ns) ns.length (fun q => .leaf (.ret, [.slv .str ns, .fn 73 [], .int .i64 (q : Nat), .int .i64 n, .int .i64 (q : Nat)], [])) (.leaf (.exit 0, [.slv .str ns, .fn 73 [], .int .i64 z, .int .i64 n, .int .i64 ns.length], [])) i.toNat)
  | _, _ => .no
def l93 : Ev.Loop := ⟨{ len := 19, slots := [0, 1, 4, 7, 8] }, ofL L93⟩
def μ93 (vs : List AV) (_ : List (Option Row)) : Nat := match vs with
  | [_, _, _, .int _ n, .int _ i] => (n - i).toNat
  | _ => 0
theorem loop93 : LoopOK Tryz.prog G93 [(2, l93)] b93 l93 := by
  refine loopT g93.natOK rfl (KOK.nil (by kernel_rfl)) μ93 (fun ρ vs rs k r h => ?_)
  unfold L93 at h
  split at h
  · rename_i ns z n i
    obtain ⟨hc, hk⟩ := gd_some h
    simp only [Bool.and_eq_true] at hc
    obtain ⟨hc, hall⟩ := hc
    obtain ⟨rfl, hs, j, rfl, hj⟩ := cnt_spec hc
    rw [Int.toNat_natCast] at hk
    refine Eq.trans (b := bif decide ((↑j : Int) < (↑ns.length : Int)) then bif inb (↑j : Int) ns.length then bif small (sE (ns.getD j AV.unk)).length then bif wrB (sE (ns.getD j AV.unk)) then k Ex.ret [AV.slv Sh.str ns, AV.fn (73 : Nat) [], AV.int IntKind.i64 (↑j : Int), AV.int IntKind.i64 (↑ns.length : Int), AV.int IntKind.i64 (↑j : Int)] [] else bif decide (((↑ns.length : Int) - IntKind.i64.wrap ((↑j : Int) + (1 : Int))).toNat < ((↑ns.length : Int) - (↑j : Int)).toNat) then bif cnt (↑ns.length : Int) (IntKind.i64.wrap ((↑j : Int) + (1 : Int))) ns.length && ns.all okN then bif (findN (wrE ns) ns.length (IntKind.i64.wrap ((↑j : Int) + (1 : Int))).toNat).isSome then k Ex.ret [AV.slv Sh.str ns, AV.fn (73 : Nat) [], AV.int IntKind.i64 (↑((findN (wrE ns) ns.length (IntKind.i64.wrap ((↑j : Int) + (1 : Int))).toNat).getD (0 : Nat)) : Int), AV.int IntKind.i64 (↑ns.length : Int), AV.int IntKind.i64 (↑((findN (wrE ns) ns.length (IntKind.i64.wrap ((↑j : Int) + (1 : Int))).toNat).getD (0 : Nat)) : Int)] [] else k (Ex.exit (0 : Nat)) [AV.slv Sh.str ns, AV.fn (73 : Nat) [], AV.int IntKind.i64 z, AV.int IntKind.i64 (↑ns.length : Int), AV.int IntKind.i64 (↑ns.length : Int)] [] else none else none else none else none else k (Ex.exit (0 : Nat)) [AV.slv Sh.str ns, AV.fn (73 : Nat) [], AV.int IntKind.i64 z, AV.int IntKind.i64 (↑ns.length : Int), AV.int IntKind.i64 (↑j : Int)] []) (by kernel_rfl) ?_
    rw [← hk]
    by_cases hlt : j < ns.length
    · obtain ⟨e1, e2, e3, e4, e5⟩ := cnt_facts hlt hs
      rw [sT_step _ _ _ _ _ hlt]
      have hw : wrE ns j = wrB (sE (ns.getD j .unk)) := rfl
      rw [hw]
      simp only [e1, e2, e3, e4, e5, hall, okN_s hall hlt, Bool.and_true, cond_true, Int.toNat_natCast]
      rfl
    · obtain rfl : j = ns.length := by omega
      rw [decide_eq_false (by omega), sT_end]
      rfl
  · cases h
def idN : Option Nat → Int
  | some q => q
  | none => -1
def F93 : List AV → Tr AV
  | [.slv .str ns, .fn 73 []] => .gd (small ns.length && ns.all okN) (.leaf (.int .i64 (idN (findN (wrE ns) ns.length 0))))
  | _ => .no
theorem ok93 : SumOK Tryz.prog 93 (ofT F93) ∧ SNat (ofT F93) := by
  refine fn1 (K := [(2, l93)]) (b := b93) (l := l93) g93 Tryz.func93 (by kernel_rfl) (by kernel_rfl) loop93 fun ρ avs k r h => ?_
  unfold F93 at h
  split at h
  · rename_i ns
    obtain ⟨hc, hk⟩ := gd_some h
    simp only [Bool.and_eq_true] at hc
    refine Eq.trans (b := bif cnt (↑ns.length : Int) (0 : Int) ns.length && ns.all okN then bif (findN (wrE ns) ns.length (0 : Nat)).isSome then k (AV.int IntKind.i64 (↑((findN (wrE ns) ns.length (0 : Nat)).getD (0 : Nat)) : Int)) else k (AV.int IntKind.i64 (-1 : Int)) else none) (by kernel_rfl) ?_
    rw [← hk, cnt_zero hc.1, hc.2]
    cases findN (wrE ns) ns.length 0 <;> rfl
  · cases h
noncomputable def G74 : Env := { pure := [(93, ofT F93)] }
theorem g74 : GOK Tryz.prog G74 := GOK.also g0 ok93
def F74 : List AV → Tr AV
  | [.slv .str ns, .fn 73 []] => .gd (small ns.length && ns.all okN) (.leaf (.bool (findN (wrE ns) ns.length 0).isSome))
  | _ => .no
theorem ok74 : SumOK Tryz.prog 74 (ofT F74) ∧ SNat (ofT F74) := by
  refine fn0 g74 Tryz.func74 (by kernel_rfl) fun ρ avs k r h => ?_
  unfold F74 at h
  split at h
  · rename_i ns
    obtain ⟨hc, hk⟩ := gd_some h
    refine Eq.trans (b := bif small ns.length && ns.all okN then k (AV.bool (decide (idN (findN (wrE ns) ns.length (0 : Nat)) ≥ (0 : Int)))) else none) (by kernel_rfl) ?_
    rw [← hk, hc]
    cases findN (wrE ns) ns.length 0 with
    | none => rfl
    | some q =>
      show k (.bool (decide (((q : Nat) : Int) ≥ 0))) = k (.bool true)
      rw [decide_eq_true (by omega)]
  · cases h
noncomputable def G44 : Env := { pure := [(74, ofT F74)] }
theorem g44 : GOK Tryz.prog G44 := GOK.also g0 ok74
def namB (ns : List AV) : Bool := inR ns.length 1 20 && !(findN (wrE ns) ns.length 0).isSome
def F44 : List AV → Tr AV
  | [.slv .str ns] => .gd (small ns.length && ns.all okN) (.leaf (.bool (namB ns)))
  | _ => .no
theorem ok44 : SumOK Tryz.prog 44 (ofT F44) ∧ SNat (ofT F44) := by
  refine fn0 g44 Tryz.func44 (by kernel_rfl) fun ρ avs k r h => ?_
  unfold F44 at h
  split at h
  · rename_i ns
    obtain ⟨hc, hk⟩ := gd_some h
    refine Eq.trans (b := bif decide ((↑ns.length : Int) ≥ (1 : Int)) then bif decide ((↑ns.length : Int) ≤ (20 : Int)) then bif small ns.length && ns.all okN then k (AV.bool !(findN (wrE ns) ns.length (0 : Nat)).isSome) else none else k (AV.bool false) else k (AV.bool false)) (by kernel_rfl) ?_
    rw [← hk, hc]
    unfold namB inR
    by_cases h1 : (1 : Int) ≤ ns.length
    · by_cases h2 : (ns.length : Int) ≤ 20
      · rw [decide_eq_true h1, decide_eq_true h2]
        rfl
      · rw [decide_eq_true h1, decide_eq_false h2]
        rfl
    · rw [decide_eq_false h1]
      rfl
  · cases h
noncomputable def G21 : Env := { pure := [(19, ofT F19), (39, ofT F39)] }
theorem g21 : GOK Tryz.prog G21 := GOK.also (GOK.also g0 ok39) ok19
noncomputable def b21 : Code := ((Tryz.f21.body.map loopsOf).getD []).headD .skip
def L21 : List AV → List (Option Row) → Tr LOut
  | [.slv .str ns, .bool b, .int .i64 i], [] =>
    .gd (cnt ns.length i ns.length && ns.all okN) (sT (wrE ns) ns.length (fun q => .leaf (.ret, [.slv .str ns, .bool false, .int .i64 (q : Nat)], [])) (.leaf (.exit 0, [.slv .str ns, .bool b, .int .i64 ns.length], [])) i.toNat)
  | _, _ => .no
def l21 : Ev.Loop := ⟨{ len := 26, slots := [0, 2, 3] }, ofL L21⟩
def μ21 (vs : List AV) (_ : List (Option Row)) : Nat := match vs with
  | [.slv _ ns, _, .int _ i] => ((ns.length : Int) - i).toNat
  | _ => 0
theorem loop21 : LoopOK Tryz.prog G21 [(2, l21)] b21 l21 := by
  refine loopT g21.natOK rfl (KOK.nil (by kernel_rfl)) μ21 (fun ρ vs rs k r h => ?_)
  unfold L21 at h
  split at h
  · rename_i ns b i
    obtain ⟨hc, hk⟩ := gd_some h
    simp only [Bool.and_eq_true] at hc
    obtain ⟨hc, hall⟩ := hc
    obtain ⟨_, hs, j, rfl, hj⟩ := cnt_spec hc
    rw [Int.toNat_natCast] at hk
    refine Eq.trans (b := bif decide ((↑j : Int) < (↑ns.length : Int)) then bif inb (↑j : Int) ns.length then bif small (sE (ns.getD j AV.unk)).length then bif !nmS (sE (ns.getD j AV.unk)) then k Ex.ret [AV.slv Sh.str ns, AV.bool false, AV.int IntKind.i64 (↑j : Int)] [] else bif inb (↑j : Int) ns.length then bif (sE (ns.getD j AV.unk)) == ([109, 97, 105, 108, 45, 115, 105, 103, 110, 97, 116, 117, 114, 101] : List UInt8) then k Ex.ret [AV.slv Sh.str ns, AV.bool false, AV.int IntKind.i64 (↑j : Int)] [] else bif decide (((↑ns.length : Int) - IntKind.i64.wrap ((↑j : Int) + (1 : Int))).toNat < ((↑ns.length : Int) - (↑j : Int)).toNat) then bif cnt (↑ns.length : Int) (IntKind.i64.wrap ((↑j : Int) + (1 : Int))) ns.length && ns.all okN then bif (findN (wrE ns) ns.length (IntKind.i64.wrap ((↑j : Int) + (1 : Int))).toNat).isSome then k Ex.ret [AV.slv Sh.str ns, AV.bool false, AV.int IntKind.i64 (↑((findN (wrE ns) ns.length (IntKind.i64.wrap ((↑j : Int) + (1 : Int))).toNat).getD (0 : Nat)) : Int)] [] else k (Ex.exit (0 : Nat)) [AV.slv Sh.str ns, AV.bool b, AV.int IntKind.i64 (↑ns.length : Int)] [] else none else none else none else none else none else k (Ex.exit (0 : Nat)) [AV.slv Sh.str ns, AV.bool b, AV.int IntKind.i64 (↑j : Int)] []) (by kernel_rfl) ?_
    rw [← hk]
    by_cases hlt : j < ns.length
    · obtain ⟨e1, e2, e3, e4, e5⟩ := cnt_facts hlt hs
      rw [sT_step _ _ _ _ _ hlt]
      have hw : wrE ns j = (!nmS (sE (ns.getD j .unk)) || sE (ns.getD j .unk) == sgL) := wrB_eq _
      rw [hw]
      simp only [e1, e2, e3, e4, e5, hall, okN_s hall hlt, Bool.and_true, cond_true, Int.toNat_natCast]
      cases nmS (sE (ns.getD j .unk))
      · rfl
      · cases h5 : sE (ns.getD j .unk) == sgL
        · have h6 : (sE (ns.getD j .unk) == ([109, 97, 105, 108, 45, 115, 105, 103, 110, 97, 116, 117, 114, 101] : List UInt8)) = false := h5
          rw [h6]; rfl
        · have h6 : (sE (ns.getD j .unk) == ([109, 97, 105, 108, 45, 115, 105, 103, 110, 97, 116, 117, 114, 101] : List UInt8)) = true := h5
          rw [h6]; rfl
    · obtain rfl : j = ns.length := by omega
      rw [decide_eq_false (by omega), sT_end]
      rfl
  · cases h
theorem ok21 : SumOK Tryz.prog 21 (ofT F44) ∧ SNat (ofT F44) := by
  refine fn1 (K := [(2, l21)]) (b := b21) (l := l21) g21 Tryz.func21 (by kernel_rfl) (by kernel_rfl) loop21 fun ρ avs k r h => ?_
  unfold F44 at h
  split at h
  · rename_i ns
    obtain ⟨hc, hk⟩ := gd_some h
    simp only [Bool.and_eq_true] at hc
    refine Eq.trans (b := bif cnt (↑ns.length : Int) (0 : Int) ns.length && ns.all okN then bif (findN (wrE ns) ns.length (0 : Nat)).isSome then k (AV.bool false) else k (AV.bool (inR (↑ns.length : Int) (1 : Int) (20 : Int))) else none) (by kernel_rfl) ?_
    rw [← hk, cnt_zero hc.1, hc.2]
    unfold namB
    cases (findN (wrE ns) ns.length 0).isSome
    · simp
      rfl
    · simp
      rfl
  · cases h
abbrev ksh : Sh := .agg [.str, .int .u64]
def iE2 (e : AV) : Int := (e.cells.tail.headD .unk).toInt
def okK (e : AV) : Bool := small (fN e).length
theorem okK_s {kk : List AV} (h : kk.all okK = true) {j : Nat} (hj : j < kk.length) : small (fN (kk.getD j .unk)).length = true := List.all_eq_true.1 h (kk.getD j .unk) (by rw [getD_eq hj]; exact List.getElem_mem hj)
def kbE (kk : List AV) (i : Nat) : Bool := !nmS (fN (kk.getD i .unk))
noncomputable def G56 : Env := { pure := [(42, ofT F19), (43, evF Tryz.prog G0 [] Tryz.f43), (47, evF Tryz.prog G0 [] Tryz.f47)] }
theorem g56 : GOK Tryz.prog G56 := GOK.also (GOK.also (GOK.also g0 (inl g0 Tryz.func47 (by kernel_rfl))) (inl g0 Tryz.func43 (by kernel_rfl))) ok42'
noncomputable def b56 : Code := ((Tryz.f56.body.map loopsOf).getD []).headD .skip
def L56 : List AV → List (Option Row) → Tr LOut
  | [.ptr 0 0, .slv (.agg [.str, .int .u64]) kk, .int .i64 n, .int .i64 i], [some (.box false [.int .i64 0, .int .i64 0])] =>
    .gd (cnt n i kk.length && (kk.all okK && decide (kk.length ≤ 1000))) (sT (kbE kk) kk.length (fun q => .leaf (.ret, [.ptr 0 0, .slv (.agg [.str, .int .u64]) kk, .int .i64 n, .int .i64 (q : Nat)], [some (.box false [.int .i64 10, .int .i64 (-30 - (q : Nat))])])) (.leaf (.exit 0, [.ptr 0 0, .slv (.agg [.str, .int .u64]) kk, .int .i64 n, .int .i64 kk.length], [some (.box false [.int .i64 0, .int .i64 0])])) i.toNat)
  | _, _ => .no
def l56 : Ev.Loop := ⟨{ len := 25, slots := [2, 9, 10, 11], rows := [0] }, ofL L56⟩
def μ56 (vs : List AV) (_ : List (Option Row)) : Nat := match vs with
  | [_, _, .int _ n, .int _ i] => (n - i).toNat
  | _ => 0
theorem loop56 : LoopOK Tryz.prog G56 [(4, l56)] b56 l56 := by
  refine loopT g56.natOK rfl (KOK.nil (by kernel_rfl)) μ56 (fun ρ vs rs k r h => ?_)
  unfold L56 at h
  split at h
  · rename_i kk n i
    obtain ⟨hc, hk⟩ := gd_some h
    simp only [Bool.and_eq_true] at hc
    obtain ⟨hc, hall, hm⟩ := hc
    obtain ⟨rfl, hs, j, rfl, hj⟩ := cnt_spec hc
    rw [Int.toNat_natCast] at hk
    refine Eq.trans (b := bif decide ((↑j : Int) < (↑kk.length : Int)) then bif inb (↑j : Int) kk.length then bif small (fN (kk.getD j AV.unk)).length then bif !nmS (fN (kk.getD j AV.unk)) then k Ex.ret [AV.ptr (0 : Nat) (0 : Nat), AV.slv (Sh.agg [Sh.str, Sh.int IntKind.u64]) kk, AV.int IntKind.i64 (↑kk.length : Int), AV.int IntKind.i64 (↑j : Int)] [some (Row.box false [AV.int IntKind.i64 (10 : Int), AV.int IntKind.i64 (IntKind.i64.wrap ((-30 : Int) - (↑j : Int)))])] else bif decide (((↑kk.length : Int) - IntKind.i64.wrap ((↑j : Int) + (1 : Int))).toNat < ((↑kk.length : Int) - (↑j : Int)).toNat) then bif cnt (↑kk.length : Int) (IntKind.i64.wrap ((↑j : Int) + (1 : Int))) kk.length && (kk.all okK && decide (kk.length ≤ (1000 : Nat))) then bif (findN (kbE kk) kk.length (IntKind.i64.wrap ((↑j : Int) + (1 : Int))).toNat).isSome then k Ex.ret [AV.ptr (0 : Nat) (0 : Nat), AV.slv (Sh.agg [Sh.str, Sh.int IntKind.u64]) kk, AV.int IntKind.i64 (↑kk.length : Int), AV.int IntKind.i64 (↑((findN (kbE kk) kk.length (IntKind.i64.wrap ((↑j : Int) + (1 : Int))).toNat).getD (0 : Nat)) : Int)] [some (Row.box false [AV.int IntKind.i64 (10 : Int), AV.int IntKind.i64 ((-30 : Int) - (↑((findN (kbE kk) kk.length (IntKind.i64.wrap ((↑j : Int) + (1 : Int))).toNat).getD (0 : Nat)) : Int))])] else k (Ex.exit (0 : Nat)) [AV.ptr (0 : Nat) (0 : Nat), AV.slv (Sh.agg [Sh.str, Sh.int IntKind.u64]) kk, AV.int IntKind.i64 (↑kk.length : Int), AV.int IntKind.i64 (↑kk.length : Int)] [some (Row.box false [AV.int IntKind.i64 (0 : Int), AV.int IntKind.i64 (0 : Int)])] else none else none else none else none else k (Ex.exit (0 : Nat)) [AV.ptr (0 : Nat) (0 : Nat), AV.slv (Sh.agg [Sh.str, Sh.int IntKind.u64]) kk, AV.int IntKind.i64 (↑kk.length : Int), AV.int IntKind.i64 (↑j : Int)] [some (Row.box false [AV.int IntKind.i64 (0 : Int), AV.int IntKind.i64 (0 : Int)])]) (by kernel_rfl) ?_
    rw [← hk]
    have hm' := of_decide_eq_true hm
    by_cases hlt : j < kk.length
    · obtain ⟨e1, e2, e3, e4, e5⟩ := cnt_facts hlt hs
      rw [sT_step _ _ _ _ _ hlt]
      have hw : kbE kk j = !nmS (fN (kk.getD j .unk)) := rfl
      have w1 : IntKind.i64.wrap (-30 - (j : Int)) = -30 - (j : Int) := wrap_mid _ (by omega) (by omega)
      rw [hw]
      simp only [e1, e2, e3, e4, e5, w1, hall, hm, okK_s hall hlt, Bool.and_true, cond_true, Int.toNat_natCast]
      rfl
    · obtain rfl : j = kk.length := by omega
      rw [decide_eq_false (by omega), sT_end]
      rfl
  · cases h
def kyC (kk : List AV) : Int := bif decide ((kk.length : Int) > 60) then 2 else bif (findN (kbE kk) kk.length 0).isSome then 10 else 0
def kyI (kk : List AV) : Int := bif decide ((kk.length : Int) > 60) then -24 else bif (findN (kbE kk) kk.length 0).isSome then -30 - ((findN (kbE kk) kk.length 0).getD 0 : Nat) else 0
def F56 : List AV → Tr AV
  | [.slv (.agg [.str, .int .u64]) kk] => .gd (small kk.length && kk.all okK) (.leaf (.agg [.int .i64 (kyC kk), .int .i64 (kyI kk)]))
  | _ => .no
theorem ok56 : SumOK Tryz.prog 56 (ofT F56) ∧ SNat (ofT F56) := by
  refine fn1 (K := [(4, l56)]) (b := b56) (l := l56) g56 Tryz.func56 (by kernel_rfl) (by kernel_rfl) loop56 fun ρ avs k r h => ?_
  unfold F56 at h
  split at h
  · rename_i kk
    obtain ⟨hc, hk⟩ := gd_some h
    simp only [Bool.and_eq_true] at hc
    obtain ⟨hc, hall⟩ := hc
    refine Eq.trans (b := bif decide ((↑kk.length : Int) > (60 : Int)) then k (AV.agg [AV.int IntKind.i64 (2 : Int), AV.int IntKind.i64 (-24 : Int)]) else bif cnt (↑kk.length : Int) (0 : Int) kk.length && (kk.all okK && decide (kk.length ≤ (1000 : Nat))) then bif (findN (kbE kk) kk.length (0 : Nat)).isSome then k (AV.agg [AV.int IntKind.i64 (10 : Int), AV.int IntKind.i64 ((-30 : Int) - (↑((findN (kbE kk) kk.length (0 : Nat)).getD (0 : Nat)) : Int))]) else k (AV.agg [AV.int IntKind.i64 (0 : Int), AV.int IntKind.i64 (0 : Int)]) else none) (by kernel_rfl) ?_
    rw [← hk, cnt_zero hc, hall]
    unfold kyC kyI
    by_cases h6 : (kk.length : Int) > 60
    · rw [decide_eq_true h6]; rfl
    · rw [decide_eq_false h6, decide_eq_true (show kk.length ≤ 1000 by omega)]
      cases (findN (kbE kk) kk.length 0).isSome <;> rfl
  · cases h
noncomputable def G27 : Env := { pure := [(19, ofT F19), (20, evF Tryz.prog G0 [] Tryz.f20)] }
theorem g27 : GOK Tryz.prog G27 := GOK.also (GOK.also g0 (inl g0 Tryz.func20 (by kernel_rfl))) ok19
noncomputable def b27 : Code := ((Tryz.f27.body.map loopsOf).getD []).headD .skip
def L27 : List AV → List (Option Row) → Tr LOut
  | [.slv (.agg [.str, .int .u64]) kk, .ptr 0 0, .int .i64 i], [some (.box false [.int .i64 0, .int .i64 0])] =>
    .gd (cnt kk.length i kk.length && (kk.all okK && decide (kk.length ≤ 1000))) (sT (kbE kk) kk.length (fun q => .leaf (.ret, [.slv (.agg [.str, .int .u64]) kk, .ptr 0 0, .int .i64 (q : Nat)], [some (.box false [.int .i64 10, .int .i64 (-30 - (q : Nat))])])) (.leaf (.exit 0, [.slv (.agg [.str, .int .u64]) kk, .ptr 0 0, .int .i64 kk.length], [some (.box false [.int .i64 0, .int .i64 0])])) i.toNat)
  | _, _ => .no
def l27 : Ev.Loop := ⟨{ len := 25, slots := [0, 2, 3], rows := [0] }, ofL L27⟩
def μ27 (vs : List AV) (_ : List (Option Row)) : Nat := match vs with
  | [.slv _ kk, _, .int _ i] => ((kk.length : Int) - i).toNat
  | _ => 0
theorem loop27 : LoopOK Tryz.prog G27 [(4, l27)] b27 l27 := by
  refine loopT g27.natOK rfl (KOK.nil (by kernel_rfl)) μ27 (fun ρ vs rs k r h => ?_)
  unfold L27 at h
  split at h
  · rename_i kk i
    obtain ⟨hc, hk⟩ := gd_some h
    simp only [Bool.and_eq_true] at hc
    obtain ⟨hc, hall, hm⟩ := hc
    obtain ⟨_, hs, j, rfl, hj⟩ := cnt_spec hc
    rw [Int.toNat_natCast] at hk
    refine Eq.trans (b := bif decide ((↑j : Int) < (↑kk.length : Int)) then bif inb (↑j : Int) kk.length then bif small (fN (kk.getD j AV.unk)).length then bif !nmS (fN (kk.getD j AV.unk)) then k Ex.ret [AV.slv (Sh.agg [Sh.str, Sh.int IntKind.u64]) kk, AV.ptr (0 : Nat) (0 : Nat), AV.int IntKind.i64 (↑j : Int)] [some (Row.box false [AV.int IntKind.i64 (10 : Int), AV.int IntKind.i64 (IntKind.i64.wrap ((-30 : Int) - (↑j : Int)))])] else bif decide (((↑kk.length : Int) - IntKind.i64.wrap ((↑j : Int) + (1 : Int))).toNat < ((↑kk.length : Int) - (↑j : Int)).toNat) then bif cnt (↑kk.length : Int) (IntKind.i64.wrap ((↑j : Int) + (1 : Int))) kk.length && (kk.all okK && decide (kk.length ≤ (1000 : Nat))) then bif (findN (kbE kk) kk.length (IntKind.i64.wrap ((↑j : Int) + (1 : Int))).toNat).isSome then k Ex.ret [AV.slv (Sh.agg [Sh.str, Sh.int IntKind.u64]) kk, AV.ptr (0 : Nat) (0 : Nat), AV.int IntKind.i64 (↑((findN (kbE kk) kk.length (IntKind.i64.wrap ((↑j : Int) + (1 : Int))).toNat).getD (0 : Nat)) : Int)] [some (Row.box false [AV.int IntKind.i64 (10 : Int), AV.int IntKind.i64 ((-30 : Int) - (↑((findN (kbE kk) kk.length (IntKind.i64.wrap ((↑j : Int) + (1 : Int))).toNat).getD (0 : Nat)) : Int))])] else k (Ex.exit (0 : Nat)) [AV.slv (Sh.agg [Sh.str, Sh.int IntKind.u64]) kk, AV.ptr (0 : Nat) (0 : Nat), AV.int IntKind.i64 (↑kk.length : Int)] [some (Row.box false [AV.int IntKind.i64 (0 : Int), AV.int IntKind.i64 (0 : Int)])] else none else none else none else none else k (Ex.exit (0 : Nat)) [AV.slv (Sh.agg [Sh.str, Sh.int IntKind.u64]) kk, AV.ptr (0 : Nat) (0 : Nat), AV.int IntKind.i64 (↑j : Int)] [some (Row.box false [AV.int IntKind.i64 (0 : Int), AV.int IntKind.i64 (0 : Int)])]) (by kernel_rfl) ?_
    rw [← hk]
    have hm' := of_decide_eq_true hm
    by_cases hlt : j < kk.length
    · obtain ⟨e1, e2, e3, e4, e5⟩ := cnt_facts hlt hs
      rw [sT_step _ _ _ _ _ hlt]
      have hw : kbE kk j = !nmS (fN (kk.getD j .unk)) := rfl
      have w1 : IntKind.i64.wrap (-30 - (j : Int)) = -30 - (j : Int) := wrap_mid _ (by omega) (by omega)
      rw [hw]
      simp only [e1, e2, e3, e4, e5, w1, hall, hm, okK_s hall hlt, Bool.and_true, cond_true, Int.toNat_natCast]
      rfl
    · obtain rfl : j = kk.length := by omega
      rw [decide_eq_false (by omega), sT_end]
      rfl
  · cases h
theorem ok27 : SumOK Tryz.prog 27 (ofT F56) ∧ SNat (ofT F56) := by
  refine fn1 (K := [(4, l27)]) (b := b27) (l := l27) g27 Tryz.func27 (by kernel_rfl) (by kernel_rfl) loop27 fun ρ avs k r h => ?_
  unfold F56 at h
  split at h
  · rename_i kk
    obtain ⟨hc, hk⟩ := gd_some h
    simp only [Bool.and_eq_true] at hc
    obtain ⟨hc, hall⟩ := hc
    refine Eq.trans (b := bif decide ((↑kk.length : Int) > (60 : Int)) then k (AV.agg [AV.int IntKind.i64 (2 : Int), AV.int IntKind.i64 (-24 : Int)]) else bif cnt (↑kk.length : Int) (0 : Int) kk.length && (kk.all okK && decide (kk.length ≤ (1000 : Nat))) then bif (findN (kbE kk) kk.length (0 : Nat)).isSome then k (AV.agg [AV.int IntKind.i64 (10 : Int), AV.int IntKind.i64 ((-30 : Int) - (↑((findN (kbE kk) kk.length (0 : Nat)).getD (0 : Nat)) : Int))]) else k (AV.agg [AV.int IntKind.i64 (0 : Int), AV.int IntKind.i64 (0 : Int)]) else none) (by kernel_rfl) ?_
    rw [← hk, cnt_zero hc, hall]
    unfold kyC kyI
    by_cases h6 : (kk.length : Int) > 60
    · rw [decide_eq_true h6]; rfl
    · rw [decide_eq_false h6, decide_eq_true (show kk.length ≤ 1000 by omega)]
      cases (findN (kbE kk) kk.length 0).isSome <;> rfl
  · cases h
noncomputable def G89 : Env := { pure := [(90, evF Tryz.prog G0 [] Tryz.f90)] }
theorem g89 : GOK Tryz.prog G89 := GOK.also g0 (inl g0 Tryz.func90 (by kernel_rfl))
noncomputable def b89 : Code := ((Tryz.f89.body.map loopsOf).getD []).headD .skip
def isKy (kk : List AV) (d : List UInt8) (i : Nat) : Bool := fN (kk.getD i .unk) == d
def L89 : List AV → List (Option Row) → Tr LOut
  | [.slv (.agg [.str, .int .u64]) kk, .fn 90 [.ref [.str d]], .int .i64 z, .int .i64 n, .int .i64 i], [] =>
    .gd (cnt n i kk.length) (sT (isKy kk d) kk.length (fun q => .leaf (.ret, [.slv (.agg [.str, .int .u64]) kk, .fn 90 [.ref [.str d]], .int .i64 (q : Nat), .int .i64 n, .int .i64 (q : Nat)], [])) (.leaf (.exit 0, [.slv (.agg [.str, .int .u64]) kk, .fn 90 [.ref [.str d]], .int .i64 z, .int .i64 n, .int .i64 kk.length], [])) i.toNat)
  | _, _ => .no
def l89 : Ev.Loop := ⟨{ len := 19, slots := [0, 1, 4, 7, 8] }, ofL L89⟩
theorem loop89 : LoopOK Tryz.prog G89 [(2, l89)] b89 l89 := by
  refine loopT g89.natOK rfl (KOK.nil (by kernel_rfl)) μ93 (fun ρ vs rs k r h => ?_)
  unfold L89 at h
  split at h
  · rename_i kk d z n i
    obtain ⟨hc, hk⟩ := gd_some h
    obtain ⟨rfl, hs, j, rfl, hj⟩ := cnt_spec hc
    rw [Int.toNat_natCast] at hk
    refine Eq.trans (b := bif decide ((↑j : Int) < (↑kk.length : Int)) then bif inb (↑j : Int) kk.length then bif (fN (kk.getD j AV.unk)) == d then k Ex.ret [AV.slv (Sh.agg [Sh.str, Sh.int IntKind.u64]) kk, AV.fn (90 : Nat) [AV.ref [AV.str d]], AV.int IntKind.i64 (↑j : Int), AV.int IntKind.i64 (↑kk.length : Int), AV.int IntKind.i64 (↑j : Int)] [] else bif decide (((↑kk.length : Int) - IntKind.i64.wrap ((↑j : Int) + (1 : Int))).toNat < ((↑kk.length : Int) - (↑j : Int)).toNat) then bif cnt (↑kk.length : Int) (IntKind.i64.wrap ((↑j : Int) + (1 : Int))) kk.length then bif (findN (isKy kk d) kk.length (IntKind.i64.wrap ((↑j : Int) + (1 : Int))).toNat).isSome then k Ex.ret [AV.slv (Sh.agg [Sh.str, Sh.int IntKind.u64]) kk, AV.fn (90 : Nat) [AV.ref [AV.str d]], AV.int IntKind.i64 (↑((findN (isKy kk d) kk.length (IntKind.i64.wrap ((↑j : Int) + (1 : Int))).toNat).getD (0 : Nat)) : Int), AV.int IntKind.i64 (↑kk.length : Int), AV.int IntKind.i64 (↑((findN (isKy kk d) kk.length (IntKind.i64.wrap ((↑j : Int) + (1 : Int))).toNat).getD (0 : Nat)) : Int)] [] else k (Ex.exit (0 : Nat)) [AV.slv (Sh.agg [Sh.str, Sh.int IntKind.u64]) kk, AV.fn (90 : Nat) [AV.ref [AV.str d]], AV.int IntKind.i64 z, AV.int IntKind.i64 (↑kk.length : Int), AV.int IntKind.i64 (↑kk.length : Int)] [] else none else none else none else k (Ex.exit (0 : Nat)) [AV.slv (Sh.agg [Sh.str, Sh.int IntKind.u64]) kk, AV.fn (90 : Nat) [AV.ref [AV.str d]], AV.int IntKind.i64 z, AV.int IntKind.i64 (↑kk.length : Int), AV.int IntKind.i64 (↑j : Int)] []) (by kernel_rfl) ?_
    rw [← hk]
    by_cases hlt : j < kk.length
    · obtain ⟨e1, e2, e3, e4, e5⟩ := cnt_facts hlt hs
      rw [sT_step _ _ _ _ _ hlt]
      have hw : isKy kk d j = (fN (kk.getD j .unk) == d) := rfl
      rw [hw]
      simp only [e1, e2, e3, e4, e5, cond_true, Int.toNat_natCast]
      rfl
    · obtain rfl : j = kk.length := by omega
      rw [decide_eq_false (by omega), sT_end]
      rfl
  · cases h
def F89 : List AV → Tr AV
  | [.slv (.agg [.str, .int .u64]) kk, .fn 90 [.ref [.str d]]] => .gd (small kk.length) (.leaf (.int .i64 (idN (findN (isKy kk d) kk.length 0))))
  | _ => .no
theorem ok89 : SumOK Tryz.prog 89 (ofT F89) ∧ SNat (ofT F89) := by
  refine fn1 (K := [(2, l89)]) (b := b89) (l := l89) g89 Tryz.func89 (by kernel_rfl) (by kernel_rfl) loop89 fun ρ avs k r h => ?_
  unfold F89 at h
  split at h
  · rename_i kk d
    obtain ⟨hc, hk⟩ := gd_some h
    refine Eq.trans (b := bif cnt (↑kk.length : Int) (0 : Int) kk.length then bif (findN (isKy kk d) kk.length (0 : Nat)).isSome then k (AV.int IntKind.i64 (↑((findN (isKy kk d) kk.length (0 : Nat)).getD (0 : Nat)) : Int)) else k (AV.int IntKind.i64 (-1 : Int)) else none) (by kernel_rfl) ?_
    rw [← hk, cnt_zero hc]
    cases findN (isKy kk d) kk.length 0 <;> rfl
  · cases h
noncomputable def G70 : Env := { pure := [(89, ofT F89)] }
theorem g70 : GOK Tryz.prog G70 := GOK.also g0 ok89
def keyB (kk : List AV) (d : List UInt8) : Bool := (findN (isKy kk d) kk.length 0).isSome
def keyV (kk : List AV) (d : List UInt8) : Int := bif keyB kk d then iE2 (kk.getD ((findN (isKy kk d) kk.length 0).getD 0) .unk) else 0
def F70 : List AV → Tr AV
  | [.slv (.agg [.str, .int .u64]) kk, .str d] => .gd (small kk.length) (.leaf (.tup [.int .u64 (keyV kk d), .bool (keyB kk d)]))
  | _ => .no
theorem ok70 : SumOK Tryz.prog 70 (ofT F70) ∧ SNat (ofT F70) := by
  refine fn0 g70 Tryz.func70 (by kernel_rfl) fun ρ avs k r h => ?_
  unfold F70 at h
  split at h
  · rename_i kk d
    obtain ⟨hc, hk⟩ := gd_some h
    refine Eq.trans (b := bif small kk.length then bif decide (idN (findN (isKy kk d) kk.length (0 : Nat)) < (0 : Int)) then k (AV.tup [AV.int IntKind.u64 (0 : Int), AV.bool false]) else bif inb (idN (findN (isKy kk d) kk.length (0 : Nat))) kk.length then k (AV.tup [AV.int IntKind.u64 (iE2 (kk.getD (idN (findN (isKy kk d) kk.length (0 : Nat))).toNat AV.unk)), AV.bool true]) else none else none) (by kernel_rfl) ?_
    rw [← hk, hc]
    unfold keyV keyB
    cases h : findN (isKy kk d) kk.length 0 with
    | none => rfl
    | some q =>
      obtain ⟨_, h2, _, _⟩ := findN_some h
      show (bif decide (((q : Nat) : Int) < 0) then k (.tup [.int .u64 0, .bool false]) else bif inb ((q : Nat) : Int) kk.length then k (.tup [.int .u64 (iE2 (kk.getD ((q : Nat) : Int).toNat .unk)), .bool true]) else none) = _
      rw [decide_eq_false (show ¬ ((q : Nat) : Int) < 0 by omega), inb_true (show (0 : Int) ≤ (q : Nat) by omega) (show ((q : Nat) : Int) < kk.length by omega), Int.toNat_natCast]
      rfl
  · cases h
noncomputable def b30 : Code := ((Tryz.f30.body.map loopsOf).getD []).headD .skip
def L30 : List AV → List (Option Row) → Tr LOut
  | [.slv (.agg [.str, .int .u64]) kk, .str d, .int .u64 0, .bool false, .int .i64 i], [] =>
    .gd (cnt kk.length i kk.length) (sT (isKy kk d) kk.length (fun q => .leaf (.ret, [.slv (.agg [.str, .int .u64]) kk, .str d, .int .u64 (iE2 (kk.getD q .unk)), .bool true, .int .i64 (q : Nat)], [])) (.leaf (.exit 0, [.slv (.agg [.str, .int .u64]) kk, .str d, .int .u64 0, .bool false, .int .i64 kk.length], [])) i.toNat)
  | _, _ => .no
def l30 : Ev.Loop := ⟨{ len := 25, slots := [0, 1, 4, 5, 6] }, ofL L30⟩
def μ30 (vs : List AV) (_ : List (Option Row)) : Nat := match vs with
  | [.slv _ kk, _, _, _, .int _ i] => ((kk.length : Int) - i).toNat
  | _ => 0
theorem loop30 : LoopOK Tryz.prog G0 [(2, l30)] b30 l30 := by
  refine loopT g0.natOK rfl (KOK.nil (by kernel_rfl)) μ30 (fun ρ vs rs k r h => ?_)
  unfold L30 at h
  split at h
  · rename_i kk d i
    obtain ⟨hc, hk⟩ := gd_some h
    obtain ⟨_, hs, j, rfl, hj⟩ := cnt_spec hc
    rw [Int.toNat_natCast] at hk
    refine Eq.trans (b := bif decide ((↑j : Int) < (↑kk.length : Int)) then bif inb (↑j : Int) kk.length then bif (fN (kk.getD j AV.unk)) == d then bif inb (↑j : Int) kk.length then k Ex.ret [AV.slv (Sh.agg [Sh.str, Sh.int IntKind.u64]) kk, AV.str d, AV.int IntKind.u64 (iE2 (kk.getD j AV.unk)), AV.bool true, AV.int IntKind.i64 (↑j : Int)] [] else none else bif decide (((↑kk.length : Int) - IntKind.i64.wrap ((↑j : Int) + (1 : Int))).toNat < ((↑kk.length : Int) - (↑j : Int)).toNat) then bif cnt (↑kk.length : Int) (IntKind.i64.wrap ((↑j : Int) + (1 : Int))) kk.length then bif (findN (isKy kk d) kk.length (IntKind.i64.wrap ((↑j : Int) + (1 : Int))).toNat).isSome then k Ex.ret [AV.slv (Sh.agg [Sh.str, Sh.int IntKind.u64]) kk, AV.str d, AV.int IntKind.u64 (iE2 (kk.getD ((findN (isKy kk d) kk.length (IntKind.i64.wrap ((↑j : Int) + (1 : Int))).toNat).getD (0 : Nat)) AV.unk)), AV.bool true, AV.int IntKind.i64 (↑((findN (isKy kk d) kk.length (IntKind.i64.wrap ((↑j : Int) + (1 : Int))).toNat).getD (0 : Nat)) : Int)] [] else k (Ex.exit (0 : Nat)) [AV.slv (Sh.agg [Sh.str, Sh.int IntKind.u64]) kk, AV.str d, AV.int IntKind.u64 (0 : Int), AV.bool false, AV.int IntKind.i64 (↑kk.length : Int)] [] else none else none else none else k (Ex.exit (0 : Nat)) [AV.slv (Sh.agg [Sh.str, Sh.int IntKind.u64]) kk, AV.str d, AV.int IntKind.u64 (0 : Int), AV.bool false, AV.int IntKind.i64 (↑j : Int)] []) (by kernel_rfl) ?_
    rw [← hk]
    by_cases hlt : j < kk.length
    · obtain ⟨e1, e2, e3, e4, e5⟩ := cnt_facts hlt hs
      rw [sT_step _ _ _ _ _ hlt]
      have hw : isKy kk d j = (fN (kk.getD j .unk) == d) := rfl
      rw [hw]
      simp only [e1, e2, e3, e4, e5, cond_true, Int.toNat_natCast]
      rfl
    · obtain rfl : j = kk.length := by omega
      rw [decide_eq_false (by omega), sT_end]
      rfl
  · cases h
theorem ok30 : SumOK Tryz.prog 30 (ofT F70) ∧ SNat (ofT F70) := by
  refine fn1 (K := [(2, l30)]) (b := b30) (l := l30) g0 Tryz.func30 (by kernel_rfl) (by kernel_rfl) loop30 fun ρ avs k r h => ?_
  unfold F70 at h
  split at h
  · rename_i kk d
    obtain ⟨hc, hk⟩ := gd_some h
    refine Eq.trans (b := bif cnt (↑kk.length : Int) (0 : Int) kk.length then bif (findN (isKy kk d) kk.length (0 : Nat)).isSome then k (AV.tup [AV.int IntKind.u64 (iE2 (kk.getD ((findN (isKy kk d) kk.length (0 : Nat)).getD (0 : Nat)) AV.unk)), AV.bool true]) else k (AV.tup [AV.int IntKind.u64 (0 : Int), AV.bool false]) else none) (by kernel_rfl) ?_
    rw [← hk, cnt_zero hc]
    unfold keyV keyB
    cases (findN (isKy kk d) kk.length 0).isSome <;> rfl
  · cases h
end Go.Proofs.YthdhfmdhjanoaaaGreatDoor


namespace Go.Proofs.YthdhfmdhjanoaaaGreatDoor
open Go.Ev Go.RowKit Go.Lib
set_option maxHeartbeats 4000000 in
set_option maxRecDepth 100000 in
theorem run97_zero (A : Option Addr) (w : World) : Calls Tryz.prog 97 #[.slice A 0 0, .int .i64 0] w fun e w' => e = .returned (.slice A 0 0) ∧ w' = w := by
  go_enter Tryz.func97, Tryz.ntmps97
  go_wp2
  go_ret
  exact ⟨rfl, rfl⟩
set_option maxHeartbeats 4000000 in
set_option maxRecDepth 100000 in
theorem run97 (A : Option Addr) (n : Nat) (i : TypeInfo) (z : Value) (hi : Tryz.prog.info? 45 = some i) (hz : i.zero = some z) (hs : 0 < i.size) (hn : 0 < n) (h63 : n ≤ 4611686018427387904) (hb : n * i.bytes ≤ 140737488355328) (w : World) :
    Calls Tryz.prog 97 #[.slice A 0 0, .int .i64 n] w fun e w' => e = .returned (.slice (some ⟨w.heap.size, 0, none⟩) 0 (grownCap w n 0 45)) ∧
      w' = w.drew.alloc (.cells ((Builtin.zeroCells z.cells n).toList.toArray ++ Builtin.zeroCells z.cells (grownCap w n 0 45 - n)) 45) := by
  have h1 : ¬ ((n : Int) < 0) := by omega
  have h3 : wrap64 ((n : Int) - 0) = (n : Int) := by unfold wrap64; omega
  have h4 : (n : Int) > 0 := by omega
  have hrz : ∀ ty, (Builtin.append_ #[27, 3] ty #[.slice A 0 0, .int .i64 (n : Int)]).run Tryz.prog w =
      .ok (.slice (some ⟨w.heap.size, 0, none⟩) n (grownCap w n 0 45)) (w.drew.alloc (.cells ((Builtin.zeroCells z.cells n).toList.toArray ++ Builtin.zeroCells z.cells (grownCap w n 0 45 - n)) 45)) := fun ty => by
    have h := run_append_zeros (P := Tryz.prog) (w := w) 27 3 ty 45 i z Tryz.underlying27 (k := .i64) Tryz.underlying3 hi hz hs A 0 0 n [] (by simp) (by simp) (fun _ => rfl) (by omega) hn (by omega) (by omega) (by rw [Nat.zero_add]; exact growslice_fits hn hb)
    simpa using h
  have hGn : n ≤ grownCap w n 0 45 := grownCap_ge w _ _ _
  have hG63 : grownCap w n 0 45 ≤ 9223372036854775807 := by
    have := grownCap_le_maxLen w n 0 45 (by unfold maxLen; omega)
    unfold maxLen at this
    omega
  generalize grownCap w n 0 45 = G at hrz hGn hG63 ⊢
  go_enter Tryz.func97, Tryz.ntmps97
  cases A with
  | none =>
    go_wp2_with (at_builtin; refine Lib.wpList_append_run _ rfl _ _ _ _ rfl _ _ rfl rfl _ _ (hrz _) ?_)
    all_goals (go_ret; exact ⟨rfl, rfl⟩)
  | some a =>
    obtain ⟨ab, ao, asp⟩ := a
    go_wp2_with (at_builtin; refine Lib.wpList_append_run _ rfl _ _ _ _ rfl _ _ rfl rfl _ _ (hrz _) ?_)
    all_goals (go_ret; exact ⟨rfl, rfl⟩)
theorem zeroCells_list (z : Array Value) (n : Nat) : (Builtin.zeroCells z n).toList = (List.range (n * z.size)).map fun i => z[i % z.size]! := by
  unfold Builtin.zeroCells
  rw [Array.toList_map, Array.toList_range]
theorem zeroCells_add (z : Array Value) (n m : Nat) : Builtin.zeroCells z n ++ Builtin.zeroCells z m = Builtin.zeroCells z (n + m) := by
  apply Array.ext'
  rw [Array.toList_append, zeroCells_list, zeroCells_list, zeroCells_list, Nat.add_mul, List.range_add, List.map_append, List.map_map]
  congr 1
  refine List.map_congr_left fun i _ => ?_
  show _ = z[(n * z.size + i) % z.size]!
  rw [Nat.mul_add_mod_self_right]
def F97 : List AV → List Row → Tr XOut
  | [.slz (.agg [.str, .str]), .int .i64 n], [] => .gd (decide (0 ≤ n ∧ n ≤ 1000000)) (.leaf (.own RID, [], [.arr false (.agg [.str, .str]) 45 [] none]))
  | _, _ => .no
theorem sh45 : shOf Tryz.prog depth 45 = .agg [.str, .str] := by kernel_rfl
theorem el45 : elemOK Tryz.prog 45 = true := by kernel_rfl
theorem by45 : Tryz.prog.bytesOf 45 ≤ 1000 := of_decide_eq_true (by kernel_rfl)
theorem slz_val {w : World} {S : Nat → Prop} {β : Bet} {s : Sh} {v : Value} (h : VRel w S β (.slz s) v) : ∃ A, v = .slice A 0 0 := by
  cases h
  exact ⟨_, rfl⟩
theorem ok97 : XOK Tryz.prog 97 (ofX F97) ∧ XNat (ofX F97) := by
  refine ⟨fun ρ w S B β og avs rows args k r hH hSB hdom hv h => ?_, xnat_ofX F97⟩
  have h' : (F97 avs rows).run (fun q => k q.1 q.2.1 q.2.2) = some r := h
  unfold F97 at h'
  split at h'
  · rename_i n
    obtain ⟨hc, hk⟩ := gd_some h'
    obtain ⟨n0, n1⟩ := of_decide_eq_true hc
    obtain ⟨v, vs, rfl, h1, hv⟩ := hv.inv
    obtain ⟨u, us, rfl, h2, hv⟩ := hv.inv
    obtain rfl := hv.inv_nil
    obtain ⟨A, rfl⟩ := slz_val h1
    rw [h2.int_inv]
    obtain ⟨m, rfl⟩ : ∃ m : Nat, n = m := ⟨n.toNat, by omega⟩
    obtain ⟨i, zz, hi, hzz, hiw, hpos, hzs, hby, zc, hza, hhz⟩ := elemOK_spec el45
    have hwd : (Sh.agg [.str, .str]).width = 2 := rfl
    refine .inl ⟨by kernel_rfl, ?_⟩
    by_cases hm : m = 0
    · subst hm
      refine (run97_zero A w).mono fun e w' hq => ?_
      obtain ⟨he, rfl⟩ := hq
      refine ⟨_, _, _, _, S, upd β RID (some (.slice A 0 0, 2)), upd og RID none, he, hk, ?_⟩
      refine ⟨Kept.refl _ _, fun _ h => h, fun _ h => .inl h, .own _ RID _ _ (upd_same _ _ _), fun j r hj => by simp at hj, fun j r hj => ?_, fun id id' g hg hg' => ?_, fun id g hg => ?_, fun id x hx => ?_, fun b hb => hH.Slt b hb, fun id x hid hx => ?_⟩
      · match j with
        | 0 =>
          simp only [List.getElem?_cons_zero, Option.some.injEq] at hj
          subst hj
          exact ⟨by decide, _, [], [], by simp, (fun c h => by cases h), upd_same _ _ _, by simp, VRels.nil, .inl ⟨rfl, rfl, upd_same _ _ _, A, rfl⟩⟩
        | j + 1 => simp at hj
      · by_cases e : id = RID
        · rw [e, upd_same] at hg; cases hg
        · by_cases e' : id' = RID
          · rw [e', upd_same] at hg'; cases hg'
          · rw [upd_other _ _ _ _ e] at hg; rw [upd_other _ _ _ _ e'] at hg'
            exact hH.inj _ _ _ hg hg'
      · by_cases e : id = RID
        · rw [e, upd_same] at hg; cases hg
        · rw [upd_other _ _ _ _ e] at hg; exact hH.lt _ _ hg
      · by_cases e : id = RID
        · rw [e, upd_same] at hx; cases hx; rfl
        · rw [upd_other _ _ _ _ e] at hx; exact hH.one _ _ hx
      · rw [upd_other _ _ _ _ (Nat.ne_of_lt hid)] at hx; exact hx
    · have hb : m * i.bytes ≤ 140737488355328 := by
        have h3 : i.bytes ≤ 1000 := by rw [hby]; exact by45
        have h4 : m * i.bytes ≤ 1000000 * 1000 := Nat.mul_le_mul (by omega) h3
        omega
      refine (run97 A m i zz hi hzz hpos (by omega) (by omega) hb w).mono fun e w' hq => ?_
      obtain ⟨he, hw⟩ := hq
      have hge := grownCap_ge w m 0 45
      have hle : grownCap w m 0 45 ≤ maxLen := grownCap_le_maxLen w m 0 45 (by unfold maxLen; omega)
      have hcells : ((Builtin.zeroCells zz.cells m).toList.toArray ++ Builtin.zeroCells zz.cells (grownCap w m 0 45 - m)) = ([] : List Value).toArray ++ Builtin.zeroCells zz.cells (grownCap w m 0 45 - ([] : List AV).length) := by
        rw [Array.toArray_toList, zeroCells_add, show m + (grownCap w m 0 45 - m) = grownCap w m 0 45 from by omega]
        show _ = #[] ++ Builtin.zeroCells zz.cells (grownCap w m 0 45 - 0)
        rw [Array.empty_append, Nat.sub_zero]
      rw [hcells] at hw
      have hbel : Below w.heap.size w w' := by rw [hw]; exact below_drew_alloc w _
      have hsz : w'.heap.size = w.heap.size + 1 := by rw [hw]; simp
      have hold : ∀ k, k < w.heap.size → w'.heap[k]? = w.heap[k]? := fun k hk => hbel.block k hk
      refine ⟨_, _, _, _, S, upd β RID (some (.slice (some ⟨w.heap.size, 0, none⟩) 0 (grownCap w m 0 45), 2)), upd og RID (some w.heap.size), he, hk, ?_⟩
      refine ⟨Kept.of_below hbel hH.Ble, fun _ h => h, fun _ h => .inl h, .own _ RID _ _ (upd_same _ _ _), fun j r hj => by simp at hj, fun j r hj => ?_, fun id id' g hg hg' => ?_, fun id g hg => ?_, fun id x hx => ?_, fun b hb => by have := hH.Slt b hb; omega, fun id x hid hx => ?_⟩
      · match j with
        | 0 =>
          simp only [List.getElem?_cons_zero, Option.some.injEq] at hj
          subst hj
          rw [hw]
          have := rowrel_new (P := Tryz.prog) (w := w) (S := S) (B := (⟨B, nob, []⟩ : Ctx)) hH.Slt hH.Ble hi hzz hzs hpos hiw hza hhz (s := .agg [.str, .str]) sh45.symm (es := []) (xs := []) (by simp) VRels.nil (by simp) (Nat.zero_le _) hle (w1 := w.drew) rfl (β' := upd β RID (some (.slice (some ⟨w.heap.size, 0, none⟩) 0 (grownCap w m 0 45), 2))) (id := RID) (upd_same _ _ _)
          show RowRel _ S B _ RID (upd og RID (some w.heap.size) RID) _
          rw [upd_same]
          exact this
        | j + 1 => simp at hj
      · by_cases e : id = RID <;> by_cases e' : id' = RID
        · rw [e, e']
        · rw [e, upd_same] at hg; rw [upd_other _ _ _ _ e'] at hg'
          cases hg
          exact absurd (hH.lt _ _ hg') (Nat.lt_irrefl _)
        · rw [e', upd_same] at hg'; rw [upd_other _ _ _ _ e] at hg
          cases hg'
          exact absurd (hH.lt _ _ hg) (Nat.lt_irrefl _)
        · rw [upd_other _ _ _ _ e] at hg; rw [upd_other _ _ _ _ e'] at hg'
          exact hH.inj _ _ _ hg hg'
      · by_cases e : id = RID
        · rw [e, upd_same] at hg; cases hg; omega
        · rw [upd_other _ _ _ _ e] at hg; have := hH.lt _ _ hg; omega
      · by_cases e : id = RID
        · rw [e, upd_same] at hx; cases hx; rfl
        · rw [upd_other _ _ _ _ e] at hx; exact hH.one _ _ hx
      · rw [upd_other _ _ _ _ (Nat.ne_of_lt hid)] at hx; exact hx
  · cases h'
end Go.Proofs.YthdhfmdhjanoaaaGreatDoor


namespace Go.Proofs.YthdhfmdhjanoaaaGreatDoor
open Go.Ev
def lsE (e : AV) : List AV := (e.cells.headD .unk).toList
def sumN : List AV → Nat
  | [] => 0
  | e :: r => (lsE e).length + sumN r
noncomputable def G77 : Env := { pure := [], opens := [(97, ofX F97)] }
theorem g77 : GOK Tryz.prog G77 := GOK.alsoX g0 ok97
noncomputable def b77 : Code := ((Tryz.f77.body.map loopsOf).getD []).headD .skip
noncomputable def c77 : Code := (((Tryz.f77.body.map loopsOf).getD []).tail).headD .skip
def L77 : List AV → List (Option Row) → Tr LOut
  | [.slv (.slice (.agg [.str, .str])) tt, .slz sh, .int .i64 z, .slv (.slice (.agg [.str, .str])) ss, .int .i64 n, .int .i64 i], [] =>
    .gd (cnt n i ss.length && decide (0 ≤ z ∧ z + (sumN (ss.drop i.toNat) : Nat) ≤ 1000000)) (.leaf (.exit 0, [.slv (.slice (.agg [.str, .str])) tt, .slz sh, .int .i64 (z + (sumN (ss.drop i.toNat) : Nat)), .slv (.slice (.agg [.str, .str])) ss, .int .i64 n, .int .i64 ss.length], []))
  | _, _ => .no
def l77 : Ev.Loop := ⟨{ len := 36, slots := [0, 2, 3, 9, 10, 11] }, ofL L77⟩
def μ77 (vs : List AV) (_ : List (Option Row)) : Nat := match vs with
  | [_, _, _, _, .int _ n, .int _ i] => (n - i).toNat
  | _ => 0
theorem loop77 (K : List (Nat × Ev.Loop)) : LoopOK Tryz.prog G77 K b77 l77 := by
  refine loopT g77.natOK rfl (KOK.nil (by kernel_rfl)) μ77 (fun ρ vs rs k r h => ?_)
  unfold L77 at h
  split at h
  · rename_i tt sh z ss n i
    obtain ⟨hc, hk⟩ := gd_some h
    simp only [Bool.and_eq_true] at hc
    obtain ⟨hc, hb⟩ := hc
    obtain ⟨rfl, hs, j, rfl, hj⟩ := cnt_spec hc
    rw [Int.toNat_natCast] at hk hb
    refine Eq.trans (b := bif decide ((↑j : Int) < (↑ss.length : Int)) then bif inb (↑j : Int) ss.length then bif decide (IntKind.i64.wrap (z + (↑(lsE (ss.getD j AV.unk)).length : Int)) < (0 : Int)) then none else bif decide (((↑ss.length : Int) - IntKind.i64.wrap ((↑j : Int) + (1 : Int))).toNat < ((↑ss.length : Int) - (↑j : Int)).toNat) then bif cnt (↑ss.length : Int) (IntKind.i64.wrap ((↑j : Int) + (1 : Int))) ss.length && decide ((0 : Int) ≤ IntKind.i64.wrap (z + (↑(lsE (ss.getD j AV.unk)).length : Int)) ∧ IntKind.i64.wrap (z + (↑(lsE (ss.getD j AV.unk)).length : Int)) + (↑(sumN (List.drop (IntKind.i64.wrap ((↑j : Int) + (1 : Int))).toNat ss)) : Int) ≤ (1000000 : Int)) then k (Ex.exit (0 : Nat)) [AV.slv (Sh.agg [Sh.str, Sh.str]).slice tt, AV.slz sh, AV.int IntKind.i64 (IntKind.i64.wrap (z + (↑(lsE (ss.getD j AV.unk)).length : Int)) + (↑(sumN (List.drop (IntKind.i64.wrap ((↑j : Int) + (1 : Int))).toNat ss)) : Int)), AV.slv (Sh.agg [Sh.str, Sh.str]).slice ss, AV.int IntKind.i64 (↑ss.length : Int), AV.int IntKind.i64 (↑ss.length : Int)] [] else none else none else none else k (Ex.exit (0 : Nat)) [AV.slv (Sh.agg [Sh.str, Sh.str]).slice tt, AV.slz sh, AV.int IntKind.i64 z, AV.slv (Sh.agg [Sh.str, Sh.str]).slice ss, AV.int IntKind.i64 (↑ss.length : Int), AV.int IntKind.i64 (↑j : Int)] []) (by kernel_rfl) ?_
    rw [← hk]
    obtain ⟨h1, h2⟩ := of_decide_eq_true hb
    by_cases hlt : j < ss.length
    · obtain ⟨e1, e2, e3, e4, e5⟩ := cnt_facts hlt hs
      rw [drop_getD hlt] at h2 ⊢
      have hsn : sumN (ss.getD j .unk :: ss.drop (j + 1)) = (lsE (ss.getD j .unk)).length + sumN (ss.drop (j + 1)) := rfl
      rw [hsn] at h2 ⊢
      have w1 : IntKind.i64.wrap (z + ((lsE (ss.getD j .unk)).length : Int)) = z + ((lsE (ss.getD j .unk)).length : Int) := wrap_mid _ (by omega) (by omega)
      have hz : decide (z + ((lsE (ss.getD j .unk)).length : Int) < 0) = false := decide_eq_false (by omega)
      have hg : decide (0 ≤ z + ((lsE (ss.getD j .unk)).length : Int) ∧ z + ((lsE (ss.getD j .unk)).length : Int) + (sumN (ss.drop (j + 1)) : Nat) ≤ 1000000) = true := decide_eq_true ⟨by omega, by omega⟩
      simp only [e1, e2, e3, e4, e5, w1, hz, hg, cond_true, cond_false, Bool.and_true, Int.toNat_natCast]
      show k _ [_, _, .int .i64 _, _, _, _] _ = k _ [_, _, .int .i64 _, _, _, _] _
      rw [Int.natCast_add, Int.add_assoc]
    · obtain rfl : j = ss.length := by omega
      rw [decide_eq_false (by omega), List.drop_length]
      show k _ [_, _, .int .i64 z, _, _, _] _ = k _ [_, _, .int .i64 (z + 0), _, _, _] _
      rw [Int.add_zero]
  · cases h
def L77b : List AV → List (Option Row) → Tr LOut
  | [.own 900, .slv (.slice (.agg [.str, .str])) ss, .int .i64 n, .int .i64 i], [some (.arr false (.agg [.str, .str]) e out none)] =>
    .gd (cnt n i ss.length && decide (out.length + sumN (ss.drop i.toNat) ≤ 1000000 ∧ e = 45)) (.leaf (.exit 2, [.own 900, .slv (.slice (.agg [.str, .str])) ss, .int .i64 n, .int .i64 ss.length], [some (.arr false (.agg [.str, .str]) e (out ++ (ss.drop i.toNat).flatMap lsE) none)]))
  | _, _ => .no
def l77b : Ev.Loop := ⟨{ len := 36, slots := [6, 25, 26, 27], rows := [900], homes := [(6, 900, 45)] }, ofL L77b⟩
def μ77b (vs : List AV) (_ : List (Option Row)) : Nat := match vs with
  | [_, _, .int _ n, .int _ i] => (n - i).toNat
  | _ => 0
theorem loop77b (K : List (Nat × Ev.Loop)) : LoopOK Tryz.prog G77 K c77 l77b := by
  refine loopT g77.natOK rfl (KOK.nil (by kernel_rfl)) μ77b (fun ρ vs rs k r h => ?_)
  unfold L77b at h
  split at h
  · rename_i ss n i e out
    obtain ⟨hc, hk⟩ := gd_some h
    simp only [Bool.and_eq_true] at hc
    obtain ⟨hc, hb⟩ := hc
    obtain ⟨rfl, hs, j, rfl, hj⟩ := cnt_spec hc
    rw [Int.toNat_natCast] at hk hb
    obtain ⟨h1, rfl⟩ := of_decide_eq_true hb
    clear hb
    refine Eq.trans (b := bif decide ((↑j : Int) < (↑ss.length : Int)) then bif inb (↑j : Int) ss.length then bif roomB (out.length + (lsE (ss.getD j AV.unk)).length) (Tryz.prog.bytesOf (45 : Nat)) then bif decide (((↑ss.length : Int) - IntKind.i64.wrap ((↑j : Int) + (1 : Int))).toNat < ((↑ss.length : Int) - (↑j : Int)).toNat) then bif cnt (↑ss.length : Int) (IntKind.i64.wrap ((↑j : Int) + (1 : Int))) ss.length && decide ((out ++ (lsE (ss.getD j AV.unk))).length + sumN (List.drop (IntKind.i64.wrap ((↑j : Int) + (1 : Int))).toNat ss) ≤ (1000000 : Nat) ∧ (45 : Nat) = (45 : TypeId)) then k (Ex.exit (2 : Nat)) [AV.own (900 : Nat), AV.slv (Sh.agg [Sh.str, Sh.str]).slice ss, AV.int IntKind.i64 (↑ss.length : Int), AV.int IntKind.i64 (↑ss.length : Int)] [some (Row.arr false (Sh.agg [Sh.str, Sh.str]) (45 : Nat) (out ++ (lsE (ss.getD j AV.unk)) ++ List.flatMap lsE (List.drop (IntKind.i64.wrap ((↑j : Int) + (1 : Int))).toNat ss)) none)] else none else none else none else none else k (Ex.exit (2 : Nat)) [AV.own (900 : Nat), AV.slv (Sh.agg [Sh.str, Sh.str]).slice ss, AV.int IntKind.i64 (↑ss.length : Int), AV.int IntKind.i64 (↑j : Int)] [some (Row.arr false (Sh.agg [Sh.str, Sh.str]) (45 : Nat) out none)]) (by kernel_rfl) ?_
    rw [← hk]
    by_cases hlt : j < ss.length
    · obtain ⟨e1, e2, e3, e4, e5⟩ := cnt_facts hlt hs
      rw [drop_getD hlt] at h1 ⊢
      have hsn : sumN (ss.getD j .unk :: ss.drop (j + 1)) = (lsE (ss.getD j .unk)).length + sumN (ss.drop (j + 1)) := rfl
      rw [hsn] at h1
      have hr : roomB (out.length + (lsE (ss.getD j .unk)).length) (Tryz.prog.bytesOf 45) = true := roomB_small (by omega) by45
      have hg : decide ((out ++ lsE (ss.getD j .unk)).length + sumN (ss.drop (j + 1)) ≤ 1000000 ∧ True) = true := decide_eq_true ⟨by rw [List.length_append]; omega, trivial⟩
      simp only [e1, e2, e3, e4, e5, hr, hg, cond_true, Bool.and_true, Int.toNat_natCast, List.flatMap_cons, List.append_assoc]
      rfl
    · obtain rfl : j = ss.length := by omega
      rw [decide_eq_false (by omega), List.drop_length]
      show k _ _ [some (.arr false (.agg [.str, .str]) 45 out none)] = k _ _ [some (.arr false (.agg [.str, .str]) 45 (out ++ []) none)]
      rw [List.append_nil]
  · cases h
def F77 : List AV → Tr AV
  | [.slv (.slice (.agg [.str, .str])) ss] => .gd (small ss.length && decide (sumN ss ≤ 1000000)) (.leaf (.slv (.agg [.str, .str]) (ss.flatMap lsE)))
  | _ => .no
theorem ok77 : SumOK Tryz.prog 77 (ofT F77) ∧ SNat (ofT F77) := by
  refine fnT (K := [(3, l77), (11, l77b)]) g77 Tryz.func77 (bs := [b77, c77]) (by kernel_rfl) (fun b hb => ?_) fun ρ avs k r h => ?_
  · simp at hb
    rcases hb with rfl | rfl
    · exact ⟨l77, by kernel_rfl, loop77 _⟩
    · exact ⟨l77b, by kernel_rfl, loop77b _⟩
  unfold F77 at h
  split at h
  · rename_i ss
    obtain ⟨hc, hk⟩ := gd_some h
    simp only [Bool.and_eq_true] at hc
    obtain ⟨hc, hb⟩ := hc
    refine Eq.trans (b := bif cnt (↑ss.length : Int) (0 : Int) ss.length && decide ((0 : Int) ≤ (0 : Int) ∧ (0 : Int) + (↑(sumN (List.drop (0 : Nat) ss)) : Int) ≤ (1000000 : Int)) then bif decide ((0 : Int) ≤ (0 : Int) + (↑(sumN (List.drop (0 : Nat) ss)) : Int) ∧ (0 : Int) + (↑(sumN (List.drop (0 : Nat) ss)) : Int) ≤ (1000000 : Int)) then bif cnt (↑ss.length : Int) (0 : Int) ss.length && decide (([] : List AV).length + sumN (List.drop (0 : Nat) ss) ≤ (1000000 : Nat) ∧ (45 : TypeId) = (45 : TypeId)) then k (AV.slv (Sh.agg [Sh.str, Sh.str]) ([] ++ List.flatMap lsE (List.drop (0 : Nat) ss))) else none else none else none) (by kernel_rfl) ?_
    rw [← hk]
    have hb' := of_decide_eq_true hb
    rw [List.drop_zero, Int.zero_add, List.nil_append, cnt_zero hc]
    refine Eq.trans (cond_t (and_t rfl (decide_eq_true ⟨Int.le_refl _, by omega⟩))) (Eq.trans (cond_t (decide_eq_true ⟨by omega, by omega⟩)) (Eq.trans (cond_t (and_t rfl (decide_eq_true ⟨by show 0 + _ ≤ _; omega, by first | trivial | rfl⟩))) rfl))
  · cases h
def F77b : List AV → Tr AV
  | [.slv (.slice (.agg [.str, .str])) [.slv (.agg [.str, .str]) a, .slv (.agg [.str, .str]) b]] => .gd (decide (a.length + b.length ≤ 1000000)) (.leaf (.slv (.agg [.str, .str]) (a ++ b)))
  | _ => .no
theorem ok77b : SumOK Tryz.prog 77 (ofT F77b) ∧ SNat (ofT F77b) := by
  refine ⟨fun ρ w S avs args k r hS hv h => ok77.1 ρ w S avs args k r hS hv ?_, snat_ofT _⟩
  change (F77b avs).run k = some r at h
  unfold F77b at h
  split at h
  · rename_i a b
    obtain ⟨hc, hk⟩ := gd_some h
    have hc' := of_decide_eq_true hc
    show (Tr.gd (small 2 && decide (a.length + (b.length + 0) ≤ 1000000)) (Tr.leaf (.slv (.agg [.str, .str]) (a ++ (b ++ []))))).run k = some r
    rw [Nat.add_zero, List.append_nil, hc]
    exact hk
  · cases h
noncomputable def G78 : Env := { pure := [], fork := true }
theorem g78 : GOK Tryz.prog G78 := GOK.flags g0
def F78 : List AV → Tr AV
  | [.slv (.int .u8) bs] => .gd (decide (bs.length ≤ 141000000000000)) (.leaf (.slv (.int .u8) bs))
  | _ => .no
theorem ok78 : SumOK Tryz.prog 78 (ofT F78) ∧ SNat (ofT F78) := by
  refine fn0 g78 Tryz.func78 (by kernel_rfl) fun ρ avs k r h => ?_
  unfold F78 at h
  split at h
  · rename_i bs
    obtain ⟨hc, hk⟩ := gd_some h
    refine Eq.trans (b := bif bs.isEmpty then both (k (AV.slv (Sh.int IntKind.u8) [])) (bif roomB bs.length (Tryz.prog.bytesOf (5 : Nat)) then k (AV.slv (Sh.int IntKind.u8) bs) else none) else bif roomB bs.length (Tryz.prog.bytesOf (5 : Nat)) then k (AV.slv (Sh.int IntKind.u8) bs) else none) (by kernel_rfl) ?_
    rw [← hk]
    have hb := of_decide_eq_true hc
    rw [room5 (show bs.length ≤ 150000000000000 by omega)]
    cases bs with
    | nil => exact both_self _
    | cons b l => rfl
  · cases h
noncomputable def G46 : Env := { pure := [(77, ofT F77b), (78, ofT F78)] }
theorem g46 : GOK Tryz.prog G46 := GOK.also (GOK.also g0 ok78) ok77b
def F46 : List AV → Tr AV
  | [.agg [.slv (.agg [.str, .str]) es, .slv (.int .u8) bs], .str n, .str v] => .gd (decide (es.length ≤ 900000 ∧ bs.length ≤ 141000000000000)) (.leaf (.agg [.slv (.agg [.str, .str]) (.agg [.str n, .str v] :: es), .slv (.int .u8) bs]))
  | _ => .no
theorem ok46 : SumOK Tryz.prog 46 (ofT F46) ∧ SNat (ofT F46) := by
  refine fn0 g46 Tryz.func46 (by kernel_rfl) fun ρ avs k r h => ?_
  unfold F46 at h
  split at h
  · rename_i es bs n v
    obtain ⟨hc, hk⟩ := gd_some h
    refine Eq.trans (b := bif decide ([AV.agg [AV.str n, AV.str v]].length + es.length ≤ (1000000 : Nat)) then bif decide (bs.length ≤ (141000000000000 : Nat)) then k (AV.agg [AV.slv (Sh.agg [Sh.str, Sh.str]) (AV.agg [AV.str n, AV.str v] :: es), AV.slv (Sh.int IntKind.u8) bs]) else none else none) (by kernel_rfl) ?_
    rw [← hk]
    obtain ⟨h1, h2⟩ := of_decide_eq_true hc
    rw [decide_eq_true (show ([AV.agg [AV.str n, AV.str v]] : List AV).length + es.length ≤ 1000000 by rw [List.length_singleton]; omega), decide_eq_true h2]
    rfl
  · cases h
noncomputable def b51 : Code := ((Tryz.f51.body.map loopsOf).getD []).headD .skip
def difF (a b : List AV) (i : Nat) : Bool := !(fN (a.getD i .unk) == fN (b.getD i .unk) && fV (a.getD i .unk) == fV (b.getD i .unk))
def L51 : List AV → List (Option Row) → Tr LOut
  | [.slv (.agg [.str, .str]) a, .slv (.agg [.str, .str]) b, .bool r, .int .i64 i], [] =>
    .gd (cnt a.length i a.length && decide (a.length = b.length)) (sT (difF a b) a.length (fun q => .leaf (.ret, [.slv (.agg [.str, .str]) a, .slv (.agg [.str, .str]) b, .bool false, .int .i64 (q : Nat)], [])) (.leaf (.exit 0, [.slv (.agg [.str, .str]) a, .slv (.agg [.str, .str]) b, .bool r, .int .i64 a.length], [])) i.toNat)
  | _, _ => .no
def l51 : Ev.Loop := ⟨{ len := 26, slots := [0, 1, 4, 5] }, ofL L51⟩
def μ51 (vs : List AV) (_ : List (Option Row)) : Nat := match vs with
  | [.slv _ a, _, _, .int _ i] => ((a.length : Int) - i).toNat
  | _ => 0
theorem loop51 : LoopOK Tryz.prog G0 [(4, l51)] b51 l51 := by
  refine loopT g0.natOK rfl (KOK.nil (by kernel_rfl)) μ51 (fun ρ vs rs k r h => ?_)
  unfold L51 at h
  split at h
  · rename_i a b v i
    obtain ⟨hc, hk⟩ := gd_some h
    simp only [Bool.and_eq_true] at hc
    obtain ⟨hc, hab⟩ := hc
    obtain ⟨_, hs, j, rfl, hj⟩ := cnt_spec hc
    rw [Int.toNat_natCast] at hk
    refine Eq.trans (b := bif decide ((↑j : Int) < (↑a.length : Int)) then bif inb (↑j : Int) a.length then bif inb (↑j : Int) b.length then bif !((fN (a.getD j AV.unk)) == (fN (b.getD j AV.unk)) && ((fV (a.getD j AV.unk)) == (fV (b.getD j AV.unk)) && true)) then k Ex.ret [AV.slv (Sh.agg [Sh.str, Sh.str]) a, AV.slv (Sh.agg [Sh.str, Sh.str]) b, AV.bool false, AV.int IntKind.i64 (↑j : Int)] [] else bif decide (((↑a.length : Int) - IntKind.i64.wrap ((↑j : Int) + (1 : Int))).toNat < ((↑a.length : Int) - (↑j : Int)).toNat) then bif cnt (↑a.length : Int) (IntKind.i64.wrap ((↑j : Int) + (1 : Int))) a.length && decide (a.length = b.length) then bif (findN (difF a b) a.length (IntKind.i64.wrap ((↑j : Int) + (1 : Int))).toNat).isSome then k Ex.ret [AV.slv (Sh.agg [Sh.str, Sh.str]) a, AV.slv (Sh.agg [Sh.str, Sh.str]) b, AV.bool false, AV.int IntKind.i64 (↑((findN (difF a b) a.length (IntKind.i64.wrap ((↑j : Int) + (1 : Int))).toNat).getD (0 : Nat)) : Int)] [] else k (Ex.exit (0 : Nat)) [AV.slv (Sh.agg [Sh.str, Sh.str]) a, AV.slv (Sh.agg [Sh.str, Sh.str]) b, AV.bool v, AV.int IntKind.i64 (↑a.length : Int)] [] else none else none else none else none else k (Ex.exit (0 : Nat)) [AV.slv (Sh.agg [Sh.str, Sh.str]) a, AV.slv (Sh.agg [Sh.str, Sh.str]) b, AV.bool v, AV.int IntKind.i64 (↑j : Int)] []) (by kernel_rfl) ?_
    rw [← hk]
    have hab' : a.length = b.length := of_decide_eq_true hab
    by_cases hlt : j < a.length
    · obtain ⟨e1, e2, e3, e4, e5⟩ := cnt_facts hlt hs
      have e2' : inb (j : Int) b.length = true := inb_true (by omega) (by omega)
      rw [sT_step _ _ _ _ _ hlt]
      have hw : difF a b j = !(fN (a.getD j .unk) == fN (b.getD j .unk) && fV (a.getD j .unk) == fV (b.getD j .unk)) := rfl
      rw [hw]
      simp only [e1, e2, e2', e3, e4, e5, hab, Bool.and_true, cond_true, Int.toNat_natCast]
      cases (fN (a.getD j .unk) == fN (b.getD j .unk)) <;> cases (fV (a.getD j .unk) == fV (b.getD j .unk)) <;> rfl
    · obtain rfl : j = a.length := by omega
      rw [decide_eq_false (by omega), sT_end]
      rfl
  · cases h
def sfB (a b : List AV) : Bool := ((a.length : Int) == (b.length : Int)) && !(findN (difF a b) a.length 0).isSome
def F51 : List AV → Tr AV
  | [.slv (.agg [.str, .str]) a, .slv (.agg [.str, .str]) b] => .gd (small a.length) (.leaf (.bool (sfB a b)))
  | _ => .no
theorem ok51 : SumOK Tryz.prog 51 (ofT F51) ∧ SNat (ofT F51) := by
  refine fn1 (K := [(4, l51)]) (b := b51) (l := l51) g0 Tryz.func51 (by kernel_rfl) (by kernel_rfl) loop51 fun ρ avs k r h => ?_
  unfold F51 at h
  split at h
  · rename_i a b
    obtain ⟨hc, hk⟩ := gd_some h
    refine Eq.trans (b := bif (↑a.length : Int) != (↑b.length : Int) then k (AV.bool false) else bif cnt (↑a.length : Int) (0 : Int) a.length && decide (a.length = b.length) then bif (findN (difF a b) a.length (0 : Nat)).isSome then k (AV.bool false) else k (AV.bool true) else none) (by kernel_rfl) ?_
    rw [← hk, cnt_zero hc]
    unfold sfB
    cases he : ((a.length : Int) == (b.length : Int))
    · simp only [bne, he, Bool.not_false, cond_true, Bool.false_and]
      rfl
    · have he' : a.length = b.length := Int.ofNat.inj (by simpa using he)
      rw [decide_eq_true he']
      simp only [bne, he, Bool.not_true, cond_false, Bool.true_and]
      cases (findN (difF a b) a.length 0).isSome <;> rfl
  · cases h
noncomputable def G22 : Env := { pure := [(51, ofT F51)], conv := true }
theorem g22 : GOK Tryz.prog G22 := GOK.flags (GOK.also g0 ok51)
def smB (a b c d : List AV) : Bool := sfB a c && strAV b == strAV d
def F22 : List AV → Tr AV
  | [.agg [.slv (.agg [.str, .str]) a, .slv (.int .u8) b], .agg [.slv (.agg [.str, .str]) c, .slv (.int .u8) d]] => .gd (small a.length) (.leaf (.bool (smB a b c d)))
  | _ => .no
theorem ok22 : SumOK Tryz.prog 22 (ofT F22) ∧ SNat (ofT F22) := by
  refine fn0 g22 Tryz.func22 (by kernel_rfl) fun ρ avs k r h => ?_
  unfold F22 at h
  split at h
  · rename_i a b c d
    obtain ⟨hc, hk⟩ := gd_some h
    refine Eq.trans (b := bif small a.length then bif sfB a c then k (AV.bool (strAV b == strAV d)) else k (AV.bool false) else none) (by kernel_rfl) ?_
    rw [← hk, hc]
    unfold smB
    cases sfB a c <;> rfl
  · cases h
def pkF (n : List UInt8) (es : List AV) : List AV := (es.filter fun e => eqF (fN e) n).map fun e => .str (fV e)
theorem pkF_cons (n : List UInt8) (e : AV) (r : List AV) : pkF n (e :: r) = bif eqF (fN e) n then .str (fV e) :: pkF n r else pkF n r := by
  unfold pkF
  rw [List.filter_cons]
  cases eqF (fN e) n <;> rfl
theorem pkF_len (n : List UInt8) (es : List AV) : (pkF n es).length ≤ es.length := by
  unfold pkF
  rw [List.length_map]
  exact List.length_filter_le _ _
def okF1 (e : AV) : Bool := small (fN e).length
noncomputable def G28 : Env := { pure := [(31, ofT F53)] }
theorem g28 : GOK Tryz.prog G28 := GOK.also g0 ok31'
noncomputable def b28 : Code := ((Tryz.f28.body.map loopsOf).getD []).headD .skip
def L28 : List AV → List (Option Row) → Tr LOut
  | [.str n, .ptr 0 0, .own 900, .int .i64 i], [some (.box false [.slv (.agg [.str, .str]) es, .slv (.int .u8) bs]), some (.arr false .str e out none)] =>
    .gd (cnt es.length i es.length && (es.all okF && (small n.length && decide (out.length + (es.length - i.toNat) ≤ 1000000 ∧ e = 9)))) (.leaf (.exit 0, [.str n, .ptr 0 0, .own 900, .int .i64 es.length], [some (.box false [.slv (.agg [.str, .str]) es, .slv (.int .u8) bs]), some (.arr false .str e (out ++ pkF n (es.drop i.toNat)) none)]))
  | _, _ => .no
def l28 : Ev.Loop := ⟨{ len := 32, slots := [1, 2, 5, 6], rows := [0, 900], homes := [(5, 900, 9)] }, ofL L28⟩
def μ28 (vs : List AV) (rs : List (Option Row)) : Nat := match vs, rs with
  | [_, _, _, .int _ i], some (.box _ [.slv _ es, _]) :: _ => ((es.length : Int) - i).toNat
  | _, _ => 0
theorem loop28 : LoopOK Tryz.prog G28 [(3, l28)] b28 l28 := by
  refine loopT g28.natOK rfl (KOK.nil (by kernel_rfl)) μ28 (fun ρ vs rs k r h => ?_)
  unfold L28 at h
  split at h
  · rename_i n i es bs e out
    obtain ⟨hc, hk⟩ := gd_some h
    simp only [Bool.and_eq_true] at hc
    obtain ⟨hc, hall, hsn, hb⟩ := hc
    obtain ⟨hb, rfl⟩ := of_decide_eq_true hb
    refine Eq.trans (b := bif decide (i < (↑es.length : Int)) then bif inb i es.length then bif small (fN (es.getD i.toNat AV.unk)).length && small n.length then bif eqF (fN (es.getD i.toNat AV.unk)) n then bif inb i es.length then bif roomB (out.length + [AV.str (fV (es.getD i.toNat AV.unk))].length) (Tryz.prog.bytesOf (9 : Nat)) then bif decide (((↑es.length : Int) - IntKind.i64.wrap (i + (1 : Int))).toNat < ((↑es.length : Int) - i).toNat) then bif cnt (↑es.length : Int) (IntKind.i64.wrap (i + (1 : Int))) es.length && (es.all okF && (small n.length && decide ((out ++ [AV.str (fV (es.getD i.toNat AV.unk))]).length + (es.length - (IntKind.i64.wrap (i + (1 : Int))).toNat) ≤ (1000000 : Nat) ∧ (9 : Nat) = (9 : TypeId)))) then k (Ex.exit (0 : Nat)) [AV.str n, AV.ptr (0 : Nat) (0 : Nat), AV.own (900 : Nat), AV.int IntKind.i64 (↑es.length : Int)] [some (Row.box false [AV.slv (Sh.agg [Sh.str, Sh.str]) es, AV.slv (Sh.int IntKind.u8) bs]), some (Row.arr false Sh.str (9 : Nat) (out ++ [AV.str (fV (es.getD i.toNat AV.unk))] ++ pkF n (List.drop (IntKind.i64.wrap (i + (1 : Int))).toNat es)) none)] else none else none else none else none else bif decide (((↑es.length : Int) - IntKind.i64.wrap (i + (1 : Int))).toNat < ((↑es.length : Int) - i).toNat) then bif cnt (↑es.length : Int) (IntKind.i64.wrap (i + (1 : Int))) es.length && (es.all okF && (small n.length && decide (out.length + (es.length - (IntKind.i64.wrap (i + (1 : Int))).toNat) ≤ (1000000 : Nat) ∧ (9 : TypeId) = (9 : TypeId)))) then k (Ex.exit (0 : Nat)) [AV.str n, AV.ptr (0 : Nat) (0 : Nat), AV.own (900 : Nat), AV.int IntKind.i64 (↑es.length : Int)] [some (Row.box false [AV.slv (Sh.agg [Sh.str, Sh.str]) es, AV.slv (Sh.int IntKind.u8) bs]), some (Row.arr false Sh.str (9 : Nat) (out ++ pkF n (List.drop (IntKind.i64.wrap (i + (1 : Int))).toNat es)) none)] else none else none else none else none else k (Ex.exit (0 : Nat)) [AV.str n, AV.ptr (0 : Nat) (0 : Nat), AV.own (900 : Nat), AV.int IntKind.i64 i] [some (Row.box false [AV.slv (Sh.agg [Sh.str, Sh.str]) es, AV.slv (Sh.int IntKind.u8) bs]), some (Row.arr false Sh.str (9 : Nat) out none)]) (by kernel_rfl) ?_
    rw [← hk]
    obtain ⟨_, hs, j, rfl, hj⟩ := cnt_spec hc
    rw [Int.toNat_natCast] at hb
    by_cases hlt : j < es.length
    · obtain ⟨e1, e2, e3, e4, e5⟩ := cnt_facts hlt hs
      have hok : (small (fN (es.getD j .unk)).length && small (fV (es.getD j .unk)).length) = true := List.all_eq_true.1 hall (es.getD j .unk) (by rw [getD_eq hlt]; exact List.getElem_mem hlt)
      simp only [Bool.and_eq_true] at hok
      have r9 : ∀ x : AV, roomB (out.length + [x].length) (Tryz.prog.bytesOf 9) = true := fun x => roomB_small (by show _ + 1 ≤ _; omega) by9
      have g1 : ∀ x : AV, decide ((out ++ [x]).length + (es.length - (j + 1)) ≤ 1000000 ∧ True) = true := fun x => decide_eq_true ⟨by rw [List.length_append, List.length_singleton]; omega, trivial⟩
      have g0' : decide (out.length + (es.length - (j + 1)) ≤ 1000000 ∧ True) = true := decide_eq_true ⟨by omega, trivial⟩
      simp only [Int.toNat_natCast]
      rw [drop_getD hlt, pkF_cons]
      simp only [e1, e2, e3, e4, e5, hok.1, hsn, hall, r9, g1, g0', cond_true, Bool.and_true, Int.toNat_natCast]
      cases eqF (fN (es.getD j .unk)) n
      · rfl
      · simp only [cond_true, List.append_assoc]
        rfl
    · obtain rfl : j = es.length := by omega
      rw [decide_eq_false (by omega), Int.toNat_natCast, List.drop_length]
      show k _ _ [_, some (.arr false .str 9 out none)] = k _ _ [_, some (.arr false .str 9 (out ++ []) none)]
      rw [List.append_nil]
  · cases h
def F28 : List AV → Tr AV
  | [.agg [.slv (.agg [.str, .str]) es, .slv (.int .u8) _bs], .str n] => .gd (es.all okF && (small n.length && decide (es.length ≤ 1000000))) (.leaf (.slv .str (pkF n es)))
  | _ => .no
theorem ok28 : SumOK Tryz.prog 28 (ofT F28) ∧ SNat (ofT F28) := by
  refine fn1 (K := [(3, l28)]) (b := b28) (l := l28) g28 Tryz.func28 (by kernel_rfl) (by kernel_rfl) loop28 fun ρ avs k r h => ?_
  unfold F28 at h
  split at h
  · rename_i es bs n
    obtain ⟨hc, hk⟩ := gd_some h
    simp only [Bool.and_eq_true] at hc
    obtain ⟨hall, hsn, hl⟩ := hc
    have hl' := of_decide_eq_true hl
    refine Eq.trans (b := bif cnt (↑es.length : Int) (0 : Int) es.length && (es.all okF && (small n.length && decide (([] : List AV).length + (es.length - Int.toNat (0 : Int)) ≤ (1000000 : Nat) ∧ ((5 : Nat), (900 : Nat), (9 : TypeId)).snd.snd = (9 : TypeId)))) then k (AV.slv Sh.str ([] ++ pkF n (List.drop (0 : Nat) es))) else none) (by kernel_rfl) ?_
    rw [← hk, hall, hsn, cnt_zero (decide_eq_true (show es.length ≤ 9223372036854775807 by omega))]
    refine Eq.trans (cond_t (and_t rfl (and_t rfl (and_t rfl (decide_eq_true ⟨by show 0 + (es.length - 0) ≤ _; omega, by first | trivial | rfl⟩))))) rfl
  · cases h
def cuF : List UInt8 := [77, 97, 105, 108, 45, 67, 117, 115, 116, 111, 100, 121]
def cuL : List UInt8 := [109, 97, 105, 108, 45, 99, 117, 115, 116, 111, 100, 121]
theorem eqF_cu (s : List UInt8) : eqF s cuL = eqF s cuF := by
  unfold eqF
  rw [show lowS cuL = lowS cuF from by decide]
  rfl
theorem eqF_sg (s : List UInt8) : eqF s sgL = eqF s sgF := by
  unfold eqF
  rw [show lowS sgL = lowS sgF from by decide]
  rfl
noncomputable def G63 : Env := { pure := [(53, ofT F53)] }
theorem g63 : GOK Tryz.prog G63 := GOK.also g0 ok53
noncomputable def b63 : Code := ((Tryz.f63.body.map loopsOf).getD []).headD .skip
def L63 : List AV → List (Option Row) → Tr LOut
  | [.own 900, .slv (.agg [.str, .str]) es, .int .i64 m, .int .i64 i], [some (.arr false .str e out none)] =>
    .gd (cnt m i es.length && (es.all okF && decide (out.length + (es.length - i.toNat) ≤ 1000000 ∧ e = 9))) (.leaf (.exit 0, [.own 900, .slv (.agg [.str, .str]) es, .int .i64 m, .int .i64 es.length], [some (.arr false .str e (out ++ pkF cuF (es.drop i.toNat)) none)]))
  | _, _ => .no
def l63 : Ev.Loop := ⟨{ len := 23, slots := [3, 7, 8, 9], rows := [900], homes := [(3, 900, 9)] }, ofL L63⟩
def μ63 (vs : List AV) (_ : List (Option Row)) : Nat := match vs with
  | [_, _, .int _ n, .int _ i] => (n - i).toNat
  | _ => 0
theorem loop63 : LoopOK Tryz.prog G63 [(3, l63)] b63 l63 := by
  refine loopT g63.natOK rfl (KOK.nil (by kernel_rfl)) μ63 (fun ρ vs rs k r h => ?_)
  unfold L63 at h
  split at h
  · rename_i es m i e out
    obtain ⟨hc, hk⟩ := gd_some h
    simp only [Bool.and_eq_true] at hc
    obtain ⟨hc, hall, hb⟩ := hc
    obtain ⟨hb, rfl⟩ := of_decide_eq_true hb
    refine Eq.trans (b := bif decide (i < m) then bif inb i es.length then bif small (fN (es.getD i.toNat AV.unk)).length && small ([77, 97, 105, 108, 45, 67, 117, 115, 116, 111, 100, 121] : List UInt8).length then bif eqF (fN (es.getD i.toNat AV.unk)) ([77, 97, 105, 108, 45, 67, 117, 115, 116, 111, 100, 121] : List UInt8) then bif roomB (out.length + [AV.str (fV (es.getD i.toNat AV.unk))].length) (Tryz.prog.bytesOf (9 : Nat)) then bif decide ((m - IntKind.i64.wrap (i + (1 : Int))).toNat < (m - i).toNat) then bif cnt m (IntKind.i64.wrap (i + (1 : Int))) es.length && (es.all okF && decide ((out ++ [AV.str (fV (es.getD i.toNat AV.unk))]).length + (es.length - (IntKind.i64.wrap (i + (1 : Int))).toNat) ≤ (1000000 : Nat) ∧ (9 : Nat) = (9 : TypeId))) then k (Ex.exit (0 : Nat)) [AV.own (900 : Nat), AV.slv (Sh.agg [Sh.str, Sh.str]) es, AV.int IntKind.i64 m, AV.int IntKind.i64 (↑es.length : Int)] [some (Row.arr false Sh.str (9 : Nat) (out ++ [AV.str (fV (es.getD i.toNat AV.unk))] ++ pkF cuF (List.drop (IntKind.i64.wrap (i + (1 : Int))).toNat es)) none)] else none else none else none else bif decide ((m - IntKind.i64.wrap (i + (1 : Int))).toNat < (m - i).toNat) then bif cnt m (IntKind.i64.wrap (i + (1 : Int))) es.length && (es.all okF && decide (out.length + (es.length - (IntKind.i64.wrap (i + (1 : Int))).toNat) ≤ (1000000 : Nat) ∧ (9 : TypeId) = (9 : TypeId))) then k (Ex.exit (0 : Nat)) [AV.own (900 : Nat), AV.slv (Sh.agg [Sh.str, Sh.str]) es, AV.int IntKind.i64 m, AV.int IntKind.i64 (↑es.length : Int)] [some (Row.arr false Sh.str (9 : Nat) (out ++ pkF cuF (List.drop (IntKind.i64.wrap (i + (1 : Int))).toNat es)) none)] else none else none else none else none else k (Ex.exit (0 : Nat)) [AV.own (900 : Nat), AV.slv (Sh.agg [Sh.str, Sh.str]) es, AV.int IntKind.i64 m, AV.int IntKind.i64 i] [some (Row.arr false Sh.str (9 : Nat) out none)]) (by kernel_rfl) ?_
    rw [← hk]
    obtain ⟨rfl, hs, j, rfl, hj⟩ := cnt_spec hc
    rw [Int.toNat_natCast] at hb
    by_cases hlt : j < es.length
    · obtain ⟨e1, e2, e3, e4, e5⟩ := cnt_facts hlt hs
      have hok : (small (fN (es.getD j .unk)).length && small (fV (es.getD j .unk)).length) = true := List.all_eq_true.1 hall (es.getD j .unk) (by rw [getD_eq hlt]; exact List.getElem_mem hlt)
      simp only [Bool.and_eq_true] at hok
      have r9 : ∀ x : AV, roomB (out.length + [x].length) (Tryz.prog.bytesOf 9) = true := fun x => roomB_small (by show _ + 1 ≤ _; omega) by9
      have g1 : ∀ x : AV, decide ((out ++ [x]).length + (es.length - (j + 1)) ≤ 1000000 ∧ True) = true := fun x => decide_eq_true ⟨by rw [List.length_append, List.length_singleton]; omega, trivial⟩
      have g0' : decide (out.length + (es.length - (j + 1)) ≤ 1000000 ∧ True) = true := decide_eq_true ⟨by omega, trivial⟩
      simp only [Int.toNat_natCast]
      rw [drop_getD hlt, pkF_cons]
      have hcu : ([77, 97, 105, 108, 45, 67, 117, 115, 116, 111, 100, 121] : List UInt8) = cuF := rfl
      have hsm : small cuF.length = true := rfl
      simp only [hcu, hsm, e1, e2, e3, e4, e5, hok.1, hall, r9, g1, g0', cond_true, Bool.and_true, Int.toNat_natCast]
      cases eqF (fN (es.getD j .unk)) cuF
      · rfl
      · simp only [cond_true, List.append_assoc]
        rfl
    · obtain rfl : j = es.length := by omega
      rw [decide_eq_false (by omega), Int.toNat_natCast, List.drop_length]
      show k _ _ [some (.arr false .str 9 out none)] = k _ _ [some (.arr false .str 9 (out ++ []) none)]
      rw [List.append_nil]
  · cases h
def F63 : List AV → Tr AV
  | [.agg [.slv (.agg [.str, .str]) es, .slv (.int .u8) _bs]] => .gd (es.all okF && decide (es.length ≤ 1000000)) (.leaf (.slv .str (pkF cuF es)))
  | _ => .no
theorem ok63 : SumOK Tryz.prog 63 (ofT F63) ∧ SNat (ofT F63) := by
  refine fn1 (K := [(3, l63)]) (b := b63) (l := l63) g63 Tryz.func63 (by kernel_rfl) (by kernel_rfl) loop63 fun ρ avs k r h => ?_
  unfold F63 at h
  split at h
  · rename_i es bs
    obtain ⟨hc, hk⟩ := gd_some h
    simp only [Bool.and_eq_true] at hc
    obtain ⟨hall, hl⟩ := hc
    have hl' := of_decide_eq_true hl
    refine Eq.trans (b := bif cnt (↑es.length : Int) (0 : Int) es.length && (es.all okF && decide (([] : List AV).length + (es.length - Int.toNat (0 : Int)) ≤ (1000000 : Nat) ∧ ((3 : Nat), (900 : Nat), (9 : TypeId)).snd.snd = (9 : TypeId))) then k (AV.slv Sh.str ([] ++ pkF cuF (List.drop (0 : Nat) es))) else none) (by kernel_rfl) ?_
    rw [← hk, hall, cnt_zero (decide_eq_true (show es.length ≤ 9223372036854775807 by omega))]
    refine Eq.trans (cond_t (and_t rfl (and_t rfl (decide_eq_true ⟨by show 0 + (es.length - 0) ≤ _; omega, by first | trivial | rfl⟩)))) rfl
  · cases h
end Go.Proofs.YthdhfmdhjanoaaaGreatDoor

namespace Go.Proofs.YthdhfmdhjanoaaaGreatDoor
open Go.Ev
def F24x : List AV → List Row → Tr XOut
  | [.slv (.agg [.str, .str]) es, .slv .str ns], [] => .gd (small es.length && (es.all okF && ns.all okN)) (.leaf (.tup [.own RID, .agg [.int .i64 (cfC es ns), .int .i64 (cfI es ns)]], [], [.arr false (.int .u8) 5 (cfB es ns) none]))
  | _, _ => .no
theorem ok24x : XOK Tryz.prog 24 (ofX F24x) ∧ XNat (ofX F24x) := by
  refine ⟨xsums (K := [(9, l24), (12, l24b)]) (H := [(4, 9999, 5)]) (bs := [b24, c24]) g24 Tryz.func24 (by kernel_rfl) (fun b hb => ?_) fun ρ avs rows k r h => ?_, xnat_ofX _⟩
  · simp at hb
    rcases hb with rfl | rfl
    · exact ⟨l24, by kernel_rfl, loop24⟩
    · exact ⟨l24b, by kernel_rfl, loop24b⟩
  change (F24x avs rows).run _ = some r at h
  unfold F24x at h
  split at h
  · rename_i es ns
    obtain ⟨hc, hk⟩ := gd_some h
    simp only [Bool.and_eq_true] at hc
    obtain ⟨hc, hall, hnall⟩ := hc
    refine ⟨by simp, fun rows' hsp => ?_⟩
    obtain rfl : rows' = [] := by
      cases rows' with
      | nil => rfl
      | cons a l => exact hsp.elim
    refine Eq.trans (b := bif small es.length && es.all okF then bif hvC es != (0 : Int) then k (AV.tup [AV.own (2251799813685248 : Nat), AV.agg [AV.int IntKind.i64 (hvC es), AV.int IntKind.i64 (hvI es)]]) [] [Row.arr false (Sh.int IntKind.u8) (5 : Nat) [] none] else bif decide ((↑ns.length : Int) > (300 : Int)) then k (AV.tup [AV.own (2251799813685248 : Nat), AV.agg [AV.int IntKind.i64 (2 : Int), AV.int IntKind.i64 (-2 : Int)]]) [] [Row.arr false (Sh.int IntKind.u8) (5 : Nat) [] none] else bif (↑es.length : Int) == (↑es.length : Int) && (decide ((0 : Int) ≤ (↑es.length : Int)) && roomB (↑es.length : Int).toNat (Tryz.prog.bytesOf (4 : Nat))) then bif cnt (↑ns.length : Int) (0 : Int) ns.length && (decide ((List.replicate (↑es.length : Int).toNat (zeroE Tryz.prog (4 : Nat))).length = es.length ∧ es.length ≤ (100 : Nat) ∧ ([] : List AV).length + (ns.length - Int.toNat (0 : Int)) * (10000 : Nat) ≤ (10000000 : Nat) ∧ ((8 : Nat), (900 : Nat), (5 : TypeId)).snd.snd = (5 : TypeId)) && (ns.all okN && es.all okV)) then k (AV.tup [AV.own (2251799813685248 : Nat), AV.agg [AV.int IntKind.i64 (0 : Int), AV.int IntKind.i64 (0 : Int)]]) [] [Row.arr false (Sh.int IntKind.u8) (5 : Nat) ([] ++ (selF es (List.drop (0 : Nat) ns) (List.replicate (↑es.length : Int).toNat (zeroE Tryz.prog (4 : Nat)))).fst) none] else none else none else none) (by kernel_rfl) ?_
    rw [← hk, hc, hall]
    have hne : (hvC es != 0) = !(hvC es == 0) := rfl
    rw [hne]
    unfold cfC cfI cfB
    cases h0 : hvC es == 0
    · rfl
    · have h6 := hv_len h0
      have hv := hv_ok h0
      cases h3 : decide ((ns.length : Int) > 300)
      · have hn3 : ns.length ≤ 300 := by have := of_decide_eq_false h3; omega
        have hz : zeroE Tryz.prog 4 = .bool false := by kernel_rfl
        rw [hz, Int.toNat_natCast, List.length_replicate, List.drop_zero, List.nil_append, hv, hnall]
        refine Eq.trans (cond_t rfl) (Eq.trans (cond_f rfl) (Eq.trans (cond_f rfl) (Eq.trans (cond_t (and_t (beq_self_eq_true _) (and_t (decide_eq_true (by omega)) (room4 (by omega))))) (Eq.trans (cond_t (and_t (cnt_zero (decide_eq_true (by omega))) (and_t (decide_eq_true ⟨rfl, by omega, by show 0 + (ns.length - 0) * 10000 ≤ 10000000; omega, rfl⟩) rfl))) rfl))))
      · rfl
  · cases h
theorem cbB_len (bs : List AV) : (cbB bs).length ≤ 1000000 := by
  unfold cbB
  cases h : decide ((bs.length : Int) > 12000)
  · have hb : bs.length ≤ 12000 := by have := of_decide_eq_false h; omega
    obtain ⟨i1, i2⟩ := cbL_inv bs.length bs [] 0 (Int.le_refl _) (by show 0 + 2 * 0 + 3 * bs.length ≤ _; omega)
    show (bdyF bs).1.length ≤ _
    unfold bdyF
    generalize cbL bs.length bs ([], 0) = q at i1 i2
    obtain ⟨cs', out, e⟩ := q
    simp only [] at i1 i2 ⊢
    have hq := sqF_len (strAV cs')
    rw [strAV_len] at hq
    unfold rnd
    simp only []
    cases hs : sqF (strAV cs') == []
    · have hr := Lib.repeatL_length [13, 10] e.toNat
      have h22 : ([13, 10] : List UInt8).length = 2 := rfl
      rw [h22] at hr
      have hpos : 0 < (sqF (strAV cs')).length := List.length_pos_iff.2 (by simpa using hs)
      show (out ++ bytesAV _).length ≤ _
      rw [List.length_append, bytesAV_length, List.length_append, List.length_append, hr, h22]
      omega
    · show out.length ≤ _
      omega
  · exact Nat.zero_le _
theorem selF_len {es : List AV} (hv : es.all okV = true) : ∀ (ns us : List AV), (selF es ns us).1.length ≤ ns.length * 10000
  | [], _ => Nat.zero_le _
  | n :: ns, us => by
    rw [selF_cons]
    cases hd : dn (frB es us (sE n)) es.length with
    | none =>
      have := selF_len hv ns us
      show (selF es ns us).1.length ≤ (n :: ns).length * 10000
      rw [List.length_cons, Nat.succ_mul]
      exact Nat.le_trans this (Nat.le_add_right _ _)
    | some q =>
      have ih := selF_len hv ns (us.set q (.bool true))
      have hq : q < es.length := dn_lt hd
      have hok := List.all_eq_true.1 hv (es.getD q .unk) (by rw [getD_eq hq]; exact List.getElem_mem hq)
      obtain ⟨v1, v2⟩ : (fN (es.getD q .unk)).length ≤ 60 ∧ (fV (es.getD q .unk)).length ≤ 4000 := of_decide_eq_true hok
      have hfl := fldF_len (fN (es.getD q .unk)) (fV (es.getD q .unk))
      show (fldE (es.getD q .unk) ++ (selF es ns (us.set q (.bool true))).1).length ≤ _
      rw [List.length_append, List.length_cons]
      unfold fldE
      rw [bytesAV_length]
      omega
theorem cfB_len (es ns : List AV) : (cfB es ns).length ≤ 3000000 := by
  unfold cfB
  cases h0 : hvC es == 0
  · exact Nat.zero_le _
  · cases h3 : decide ((ns.length : Int) > 300)
    · have hn3 : ns.length ≤ 300 := by have := of_decide_eq_false h3; omega
      have := selF_len (hv_ok h0) ns (List.replicate es.length (.bool false))
      show (selF es ns _).1.length ≤ _
      omega
    · exact Nat.zero_le _
theorem lenB_t {n : Nat} (h : n ≤ 9223372036854775807) : lenB n = true := decide_eq_true h
theorem small_t {n : Nat} (h : n ≤ 9223372036854775807) : small n = true := decide_eq_true h
theorem hexS_len (n : Int) : (hexS n).length = 16 := digs_len _ _
theorem uN_sum (key : Int) (es : List AV) : uN (sumF key es) = true := decide_eq_true (sumF_r key es)
theorem dig_len (n : Nat) : (dig n).length ≤ 2 := by
  unfold dig
  cases Nat.blt n 10
  · exact Nat.le_refl _
  · show 1 ≤ 2; omega
def sgFr (d n h : List UInt8) : List UInt8 := [100, 61] ++ d ++ [59, 32, 104, 61] ++ n ++ [59, 32, 98, 61] ++ h ++ [59, 32, 115, 61]
def sgS (key : Int) (d n : List UInt8) (body : List AV) (head : List AV) : List UInt8 := sgFr d n (hexS (sumF key body)) ++ hexS (sumF key (head ++ bytesAV (sgFr d n (hexS (sumF key body)))))
noncomputable def G45 : Env := { pure := [(23, ofT F23), (41, evF Tryz.prog G0 [] Tryz.f41), (75, ofT F75), (14, ofT F14), (76, ofT F38)], opens := [(24, ofX F24x)] }
theorem g45 : GOK Tryz.prog G45 := GOK.alsoX (GOK.also (GOK.also (GOK.also (GOK.also (GOK.also g0 ok76) ok14) ok75) (inl g0 Tryz.func41 (by kernel_rfl))) ok23) ok24x
def vaB (es bs ns : List AV) : Bool := (cbC bs == 0) && cfC es ns == 0
def vaS (key : Int) (d : List UInt8) (ns es bs : List AV) : List UInt8 := bif vaB es bs ns then sgS key d (Lib.join (strL ns) [58]) (cbB bs) (cfB es ns) else []
def F45 : List AV → Tr AV
  | [.agg [.slv (.agg [.str, .str]) es, .slv (.int .u8) bs], .str d, .int .u64 key, .slv .str ns] => .gd ((small es.length && (es.all okF && ns.all okN)) && (bs.all bE && decide (d.length ≤ 1000000 ∧ ns.length ≤ 1000000 ∧ (Lib.join (strL ns) [58]).length ≤ 1000000))) (.leaf (.tup [.str (vaS key d ns es bs), .bool (vaB es bs ns)]))
  | _ => .no
theorem ok45 : SumOK Tryz.prog 45 (ofT F45) ∧ SNat (ofT F45) := by
  refine fn0 g45 Tryz.func45 (by kernel_rfl) fun ρ avs k r h => ?_
  unfold F45 at h
  split at h
  · rename_i es bs d key ns
    obtain ⟨hc, hk⟩ := gd_some h
    refine Eq.trans (b := bif bs.all bE then bif small es.length && (es.all okF && ns.all okN) then bif cbC bs != (0 : Int) then k (AV.tup [AV.str [], AV.bool false]) else bif cfC es ns != (0 : Int) then k (AV.tup [AV.str [], AV.bool false]) else bif lenB (([100, 61] : List UInt8).length + d.length) then bif lenB ((([100, 61] : List UInt8) ++ d).length + ([59, 32, 104, 61] : List UInt8).length) then bif decide (ns.length ≤ (140737488355328 : Nat)) && decide ((Lib.join (strL ns) ([58] : List UInt8)).length ≤ (140737488355328 : Nat)) then bif lenB ((([100, 61] : List UInt8) ++ d ++ ([59, 32, 104, 61] : List UInt8)).length + (Lib.join (strL ns) ([58] : List UInt8)).length) then bif lenB ((([100, 61] : List UInt8) ++ d ++ ([59, 32, 104, 61] : List UInt8) ++ Lib.join (strL ns) ([58] : List UInt8)).length + ([59, 32, 98, 61] : List UInt8).length) then bif small (cbB bs).length then bif uN (sumF key (cbB bs)) then bif lenB ((([100, 61] : List UInt8) ++ d ++ ([59, 32, 104, 61] : List UInt8) ++ Lib.join (strL ns) ([58] : List UInt8) ++ ([59, 32, 98, 61] : List UInt8)).length + (hexS (sumF key (cbB bs))).length) then bif lenB ((([100, 61] : List UInt8) ++ d ++ ([59, 32, 104, 61] : List UInt8) ++ Lib.join (strL ns) ([58] : List UInt8) ++ ([59, 32, 98, 61] : List UInt8) ++ hexS (sumF key (cbB bs))).length + ([59, 32, 115, 61] : List UInt8).length) then bif roomB ((cfB es ns).length + (bytesAV (([100, 61] : List UInt8) ++ d ++ ([59, 32, 104, 61] : List UInt8) ++ Lib.join (strL ns) ([58] : List UInt8) ++ ([59, 32, 98, 61] : List UInt8) ++ hexS (sumF key (cbB bs)) ++ ([59, 32, 115, 61] : List UInt8))).length) (Tryz.prog.bytesOf (5 : Nat)) then bif small (cfB es ns ++ bytesAV (([100, 61] : List UInt8) ++ d ++ ([59, 32, 104, 61] : List UInt8) ++ Lib.join (strL ns) ([58] : List UInt8) ++ ([59, 32, 98, 61] : List UInt8) ++ hexS (sumF key (cbB bs)) ++ ([59, 32, 115, 61] : List UInt8))).length then bif uN (sumF key (cfB es ns ++ bytesAV (([100, 61] : List UInt8) ++ d ++ ([59, 32, 104, 61] : List UInt8) ++ Lib.join (strL ns) ([58] : List UInt8) ++ ([59, 32, 98, 61] : List UInt8) ++ hexS (sumF key (cbB bs)) ++ ([59, 32, 115, 61] : List UInt8)))) then bif lenB ((([100, 61] : List UInt8) ++ d ++ ([59, 32, 104, 61] : List UInt8) ++ Lib.join (strL ns) ([58] : List UInt8) ++ ([59, 32, 98, 61] : List UInt8) ++ hexS (sumF key (cbB bs)) ++ ([59, 32, 115, 61] : List UInt8)).length + (hexS (sumF key (cfB es ns ++ bytesAV (([100, 61] : List UInt8) ++ d ++ ([59, 32, 104, 61] : List UInt8) ++ Lib.join (strL ns) ([58] : List UInt8) ++ ([59, 32, 98, 61] : List UInt8) ++ hexS (sumF key (cbB bs)) ++ ([59, 32, 115, 61] : List UInt8))))).length) then k (AV.tup [AV.str (([100, 61] : List UInt8) ++ d ++ ([59, 32, 104, 61] : List UInt8) ++ Lib.join (strL ns) ([58] : List UInt8) ++ ([59, 32, 98, 61] : List UInt8) ++ hexS (sumF key (cbB bs)) ++ ([59, 32, 115, 61] : List UInt8) ++ hexS (sumF key (cfB es ns ++ bytesAV (([100, 61] : List UInt8) ++ d ++ ([59, 32, 104, 61] : List UInt8) ++ Lib.join (strL ns) ([58] : List UInt8) ++ ([59, 32, 98, 61] : List UInt8) ++ hexS (sumF key (cbB bs)) ++ ([59, 32, 115, 61] : List UInt8))))), AV.bool true]) else none else none else none else none else none else none else none else none else none else none else none else none else none else none else none) (by kernel_rfl) ?_
    rw [← hk]
    simp only [Bool.and_eq_true] at hc
    obtain ⟨⟨hs, hall, hn⟩, hb, hd⟩ := hc
    obtain ⟨d1, d2, d3⟩ := of_decide_eq_true hd
    have hcb := cbB_len bs
    have hcf := cfB_len es ns
    rw [hb, hs, hall, hn]
    unfold vaS vaB sgS sgFr
    cases h1 : cbC bs == 0
    · simp only [bne, h1, Bool.not_false, cond_true, Bool.false_and, cond_false, Bool.and_true]
      rfl
    · cases h2 : cfC es ns == 0
      · simp only [bne, h1, h2, Bool.not_false, Bool.not_true, cond_true, Bool.true_and, Bool.and_false, cond_false]
        rfl
      · simp only [bne, h1, h2, Bool.not_true, cond_true, Bool.true_and, cond_false]
        refine Eq.trans (cond_t (lenB_t (by (try simp only [List.length_cons, List.length_nil]); omega))) ?_
        refine Eq.trans (cond_t (lenB_t (by (try simp only [List.length_append, List.length_cons, List.length_nil]); omega))) ?_
        refine Eq.trans (cond_t (and_t (decide_eq_true (by omega)) (decide_eq_true (by omega)))) ?_
        refine Eq.trans (cond_t (lenB_t (by (try simp only [List.length_append, List.length_cons, List.length_nil]); omega))) ?_
        refine Eq.trans (cond_t (lenB_t (by (try simp only [List.length_append, List.length_cons, List.length_nil]); omega))) ?_
        refine Eq.trans (cond_t (small_t (by (try simp only [List.length_append, List.length_cons, List.length_nil, hexS_len, bytesAV_length]); omega))) ?_
        refine Eq.trans (cond_t (uN_sum _ _)) ?_
        refine Eq.trans (cond_t (lenB_t (by (try simp only [List.length_append, List.length_cons, List.length_nil, hexS_len]); omega))) ?_
        refine Eq.trans (cond_t (lenB_t (by (try simp only [List.length_append, List.length_cons, List.length_nil, hexS_len]); omega))) ?_
        refine Eq.trans (cond_t (room5 (by (try simp only [List.length_append, List.length_cons, List.length_nil, hexS_len, bytesAV_length]); omega))) ?_
        refine Eq.trans (cond_t (small_t (by (try simp only [List.length_append, List.length_cons, List.length_nil, hexS_len, bytesAV_length]); omega))) ?_
        refine Eq.trans (cond_t (uN_sum _ _)) ?_
        refine Eq.trans (cond_t (lenB_t (by (try simp only [List.length_append, List.length_cons, List.length_nil, hexS_len]); omega))) ?_
        rfl
  · cases h
noncomputable def G25 : Env := { pure := [(55, ofT F55), (15, ofT F14), (38, ofT F38)], conv := true }
theorem g25 : GOK Tryz.prog G25 := GOK.flags (GOK.also (GOK.also (GOK.also g0 ok38) ok15) ok55)
def F25 : List AV → Tr AV
  | [.str d, .int .u64 key, .slv .str ns, .slv (.int .u8) bs, .slv (.int .u8) hs] => .gd (decide (d.length ≤ 1000000 ∧ ns.length ≤ 1000000 ∧ (Lib.join (sL ns) [58]).length ≤ 1000000) && decide (bs.length ≤ 1000000000 ∧ hs.length ≤ 1000000000)) (.leaf (.str (sgS key d (Lib.join (sL ns) [58]) bs hs)))
  | _ => .no
theorem ok25 : SumOK Tryz.prog 25 (ofT F25) ∧ SNat (ofT F25) := by
  refine fn0 g25 Tryz.func25 (by kernel_rfl) fun ρ avs k r h => ?_
  unfold F25 at h
  split at h
  · rename_i d key ns bs hs
    obtain ⟨hc, hk⟩ := gd_some h
    refine Eq.trans (b := bif lenB (([100, 61] : List UInt8).length + d.length) then bif lenB ((([100, 61] : List UInt8) ++ d).length + ([59, 32, 104, 61] : List UInt8).length) then bif small ns.length && decide ((Lib.join (sL ns) ([58] : List UInt8)).length ≤ (1000000000000 : Nat)) then bif lenB ((([100, 61] : List UInt8) ++ d ++ ([59, 32, 104, 61] : List UInt8)).length + (Lib.join (sL ns) ([58] : List UInt8)).length) then bif lenB ((([100, 61] : List UInt8) ++ d ++ ([59, 32, 104, 61] : List UInt8) ++ Lib.join (sL ns) ([58] : List UInt8)).length + ([59, 32, 98, 61] : List UInt8).length) then bif small bs.length then bif uN (sumF key bs) then bif lenB ((([100, 61] : List UInt8) ++ d ++ ([59, 32, 104, 61] : List UInt8) ++ Lib.join (sL ns) ([58] : List UInt8) ++ ([59, 32, 98, 61] : List UInt8)).length + (hexS (sumF key bs)).length) then bif lenB ((([100, 61] : List UInt8) ++ d ++ ([59, 32, 104, 61] : List UInt8) ++ Lib.join (sL ns) ([58] : List UInt8) ++ ([59, 32, 98, 61] : List UInt8) ++ hexS (sumF key bs)).length + ([59, 32, 115, 61] : List UInt8).length) then bif roomB hs.length (Tryz.prog.bytesOf (5 : Nat)) then bif lenB (([100, 61] : List UInt8) ++ d ++ ([59, 32, 104, 61] : List UInt8) ++ Lib.join (sL ns) ([58] : List UInt8) ++ ([59, 32, 98, 61] : List UInt8) ++ hexS (sumF key bs) ++ ([59, 32, 115, 61] : List UInt8)).length then bif roomB (hs.length + (bytesAV (([100, 61] : List UInt8) ++ d ++ ([59, 32, 104, 61] : List UInt8) ++ Lib.join (sL ns) ([58] : List UInt8) ++ ([59, 32, 98, 61] : List UInt8) ++ hexS (sumF key bs) ++ ([59, 32, 115, 61] : List UInt8))).length) (Tryz.prog.bytesOf (5 : Nat)) then bif small (hs ++ bytesAV (([100, 61] : List UInt8) ++ d ++ ([59, 32, 104, 61] : List UInt8) ++ Lib.join (sL ns) ([58] : List UInt8) ++ ([59, 32, 98, 61] : List UInt8) ++ hexS (sumF key bs) ++ ([59, 32, 115, 61] : List UInt8))).length then bif uN (sumF key (hs ++ bytesAV (([100, 61] : List UInt8) ++ d ++ ([59, 32, 104, 61] : List UInt8) ++ Lib.join (sL ns) ([58] : List UInt8) ++ ([59, 32, 98, 61] : List UInt8) ++ hexS (sumF key bs) ++ ([59, 32, 115, 61] : List UInt8)))) then bif lenB ((([100, 61] : List UInt8) ++ d ++ ([59, 32, 104, 61] : List UInt8) ++ Lib.join (sL ns) ([58] : List UInt8) ++ ([59, 32, 98, 61] : List UInt8) ++ hexS (sumF key bs) ++ ([59, 32, 115, 61] : List UInt8)).length + (hexS (sumF key (hs ++ bytesAV (([100, 61] : List UInt8) ++ d ++ ([59, 32, 104, 61] : List UInt8) ++ Lib.join (sL ns) ([58] : List UInt8) ++ ([59, 32, 98, 61] : List UInt8) ++ hexS (sumF key bs) ++ ([59, 32, 115, 61] : List UInt8))))).length) then k (AV.str (([100, 61] : List UInt8) ++ d ++ ([59, 32, 104, 61] : List UInt8) ++ Lib.join (sL ns) ([58] : List UInt8) ++ ([59, 32, 98, 61] : List UInt8) ++ hexS (sumF key bs) ++ ([59, 32, 115, 61] : List UInt8) ++ hexS (sumF key (hs ++ bytesAV (([100, 61] : List UInt8) ++ d ++ ([59, 32, 104, 61] : List UInt8) ++ Lib.join (sL ns) ([58] : List UInt8) ++ ([59, 32, 98, 61] : List UInt8) ++ hexS (sumF key bs) ++ ([59, 32, 115, 61] : List UInt8)))))) else none else none else none else none else none else none else none else none else none else none else none else none else none else none else none) (by kernel_rfl) ?_
    rw [← hk]
    simp only [Bool.and_eq_true] at hc
    obtain ⟨d1, d2, d3⟩ := of_decide_eq_true hc.1
    obtain ⟨d4, d5⟩ := of_decide_eq_true hc.2
    unfold sgS sgFr
    refine Eq.trans (cond_t (lenB_t (by (try simp only [List.length_cons, List.length_nil]); omega))) ?_
    refine Eq.trans (cond_t (lenB_t (by (try simp only [List.length_append, List.length_cons, List.length_nil]); omega))) ?_
    refine Eq.trans (cond_t (and_t (small_t (by omega)) (decide_eq_true (by omega)))) ?_
    refine Eq.trans (cond_t (lenB_t (by (try simp only [List.length_append, List.length_cons, List.length_nil]); omega))) ?_
    refine Eq.trans (cond_t (lenB_t (by (try simp only [List.length_append, List.length_cons, List.length_nil]); omega))) ?_
    refine Eq.trans (cond_t (small_t (by (try simp only [List.length_append, List.length_cons, List.length_nil, hexS_len, bytesAV_length]); omega))) ?_
    refine Eq.trans (cond_t (uN_sum _ _)) ?_
    refine Eq.trans (cond_t (lenB_t (by (try simp only [List.length_append, List.length_cons, List.length_nil, hexS_len]); omega))) ?_
    refine Eq.trans (cond_t (lenB_t (by (try simp only [List.length_append, List.length_cons, List.length_nil, hexS_len]); omega))) ?_
    refine Eq.trans (cond_t (room5 (by (try simp only [List.length_append, List.length_cons, List.length_nil, hexS_len, bytesAV_length]); omega))) ?_
    refine Eq.trans (cond_t (lenB_t (by (try simp only [List.length_append, List.length_cons, List.length_nil, hexS_len]); omega))) ?_
    refine Eq.trans (cond_t (room5 (by (try simp only [List.length_append, List.length_cons, List.length_nil, hexS_len, bytesAV_length]); omega))) ?_
    refine Eq.trans (cond_t (small_t (by (try simp only [List.length_append, List.length_cons, List.length_nil, hexS_len, bytesAV_length]); omega))) ?_
    refine Eq.trans (cond_t (uN_sum _ _)) ?_
    refine Eq.trans (cond_t (lenB_t (by (try simp only [List.length_append, List.length_cons, List.length_nil, hexS_len]); omega))) ?_
    rfl
  · cases h
noncomputable def G62 : Env := { pure := [(23, ofT F23), (41, evF Tryz.prog G0 [] Tryz.f41), (14, ofT F14), (76, ofT F38)] }
theorem g62 : GOK Tryz.prog G62 := GOK.also (GOK.also (GOK.also (GOK.also g0 ok76) ok14) (inl g0 Tryz.func41 (by kernel_rfl))) ok23
def F62 : List AV → Tr AV
  | [.agg [.slv (.agg [.str, .str]) _es, .slv (.int .u8) bs]] => .gd (bs.all bE) (.leaf (.tup [.str (hexS (sumF 0 (cbB bs))), .bool (cbC bs == 0)]))
  | _ => .no
theorem ok62 : SumOK Tryz.prog 62 (ofT F62) ∧ SNat (ofT F62) := by
  refine fn0 g62 Tryz.func62 (by kernel_rfl) fun ρ avs k r h => ?_
  unfold F62 at h
  split at h
  · rename_i es bs
    obtain ⟨hc, hk⟩ := gd_some h
    refine Eq.trans (b := bif bs.all bE then bif small (cbB bs).length then bif uN (sumF (0 : Int) (cbB bs)) then k (AV.tup [AV.str (hexS (sumF (0 : Int) (cbB bs))), AV.bool !cbC bs != (0 : Int)]) else none else none else none) (by kernel_rfl) ?_
    rw [← hk, hc]
    have hcb := cbB_len bs
    refine Eq.trans (cond_t rfl) ?_
    refine Eq.trans (cond_t (small_t (by (try simp only [List.length_append, List.length_cons, List.length_nil, hexS_len, bytesAV_length]); omega))) ?_
    refine Eq.trans (cond_t (uN_sum _ _)) ?_
    simp only [bne, Bool.not_not]
    rfl
  · cases h
def cuFr (n y r s : List UInt8) : List UInt8 := [110, 61] ++ n ++ [59, 32, 121, 61] ++ y ++ [59, 32, 114, 61] ++ r ++ [59, 32, 98, 61] ++ s ++ [59, 32, 115, 61]
def cuS (key : Int) (n y r s : List UInt8) (below : List UInt8) : List UInt8 := cuFr n y r s ++ hexS (sumF key (bytesAV (cuFr n y r s ++ below)))
noncomputable def G64 : Env := { pure := [(75, ofT F75), (14, ofT F14), (76, ofT F38)], conv := true }
theorem g64 : GOK Tryz.prog G64 := GOK.flags (GOK.also (GOK.also (GOK.also g0 ok76) ok14) ok75)
def F64 : List AV → Tr AV
  | [.str n, .str y, .str r', .str s, .int .u64 key, .slv .str be] => .gd (decide (n.length ≤ 1000000 ∧ y.length ≤ 1000000 ∧ r'.length ≤ 1000000 ∧ s.length ≤ 1000000) && decide (be.length ≤ 1000000 ∧ (Lib.join (strL be) [10]).length ≤ 1000000)) (.leaf (.str (cuS key n y r' s (Lib.join (strL be) [10]))))
  | _ => .no
theorem ok64 : SumOK Tryz.prog 64 (ofT F64) ∧ SNat (ofT F64) := by
  refine fn0 g64 Tryz.func64 (by kernel_rfl) fun ρ avs k r h => ?_
  unfold F64 at h
  split at h
  · rename_i n y r' s key be
    obtain ⟨hc, hk⟩ := gd_some h
    refine Eq.trans (b := bif lenB (([110, 61] : List UInt8).length + n.length) then bif lenB ((([110, 61] : List UInt8) ++ n).length + ([59, 32, 121, 61] : List UInt8).length) then bif lenB ((([110, 61] : List UInt8) ++ n ++ ([59, 32, 121, 61] : List UInt8)).length + y.length) then bif lenB ((([110, 61] : List UInt8) ++ n ++ ([59, 32, 121, 61] : List UInt8) ++ y).length + ([59, 32, 114, 61] : List UInt8).length) then bif lenB ((([110, 61] : List UInt8) ++ n ++ ([59, 32, 121, 61] : List UInt8) ++ y ++ ([59, 32, 114, 61] : List UInt8)).length + r'.length) then bif lenB ((([110, 61] : List UInt8) ++ n ++ ([59, 32, 121, 61] : List UInt8) ++ y ++ ([59, 32, 114, 61] : List UInt8) ++ r').length + ([59, 32, 98, 61] : List UInt8).length) then bif lenB ((([110, 61] : List UInt8) ++ n ++ ([59, 32, 121, 61] : List UInt8) ++ y ++ ([59, 32, 114, 61] : List UInt8) ++ r' ++ ([59, 32, 98, 61] : List UInt8)).length + s.length) then bif lenB ((([110, 61] : List UInt8) ++ n ++ ([59, 32, 121, 61] : List UInt8) ++ y ++ ([59, 32, 114, 61] : List UInt8) ++ r' ++ ([59, 32, 98, 61] : List UInt8) ++ s).length + ([59, 32, 115, 61] : List UInt8).length) then bif decide (be.length ≤ (140737488355328 : Nat)) && decide ((Lib.join (strL be) ([10] : List UInt8)).length ≤ (140737488355328 : Nat)) then bif lenB ((([110, 61] : List UInt8) ++ n ++ ([59, 32, 121, 61] : List UInt8) ++ y ++ ([59, 32, 114, 61] : List UInt8) ++ r' ++ ([59, 32, 98, 61] : List UInt8) ++ s ++ ([59, 32, 115, 61] : List UInt8)).length + (Lib.join (strL be) ([10] : List UInt8)).length) then bif lenB (([110, 61] : List UInt8) ++ n ++ ([59, 32, 121, 61] : List UInt8) ++ y ++ ([59, 32, 114, 61] : List UInt8) ++ r' ++ ([59, 32, 98, 61] : List UInt8) ++ s ++ ([59, 32, 115, 61] : List UInt8) ++ Lib.join (strL be) ([10] : List UInt8)).length then bif small (bytesAV (([110, 61] : List UInt8) ++ n ++ ([59, 32, 121, 61] : List UInt8) ++ y ++ ([59, 32, 114, 61] : List UInt8) ++ r' ++ ([59, 32, 98, 61] : List UInt8) ++ s ++ ([59, 32, 115, 61] : List UInt8) ++ Lib.join (strL be) ([10] : List UInt8))).length then bif uN (sumF key (bytesAV (([110, 61] : List UInt8) ++ n ++ ([59, 32, 121, 61] : List UInt8) ++ y ++ ([59, 32, 114, 61] : List UInt8) ++ r' ++ ([59, 32, 98, 61] : List UInt8) ++ s ++ ([59, 32, 115, 61] : List UInt8) ++ Lib.join (strL be) ([10] : List UInt8)))) then bif lenB ((([110, 61] : List UInt8) ++ n ++ ([59, 32, 121, 61] : List UInt8) ++ y ++ ([59, 32, 114, 61] : List UInt8) ++ r' ++ ([59, 32, 98, 61] : List UInt8) ++ s ++ ([59, 32, 115, 61] : List UInt8)).length + (hexS (sumF key (bytesAV (([110, 61] : List UInt8) ++ n ++ ([59, 32, 121, 61] : List UInt8) ++ y ++ ([59, 32, 114, 61] : List UInt8) ++ r' ++ ([59, 32, 98, 61] : List UInt8) ++ s ++ ([59, 32, 115, 61] : List UInt8) ++ Lib.join (strL be) ([10] : List UInt8))))).length) then k (AV.str (([110, 61] : List UInt8) ++ n ++ ([59, 32, 121, 61] : List UInt8) ++ y ++ ([59, 32, 114, 61] : List UInt8) ++ r' ++ ([59, 32, 98, 61] : List UInt8) ++ s ++ ([59, 32, 115, 61] : List UInt8) ++ hexS (sumF key (bytesAV (([110, 61] : List UInt8) ++ n ++ ([59, 32, 121, 61] : List UInt8) ++ y ++ ([59, 32, 114, 61] : List UInt8) ++ r' ++ ([59, 32, 98, 61] : List UInt8) ++ s ++ ([59, 32, 115, 61] : List UInt8) ++ Lib.join (strL be) ([10] : List UInt8)))))) else none else none else none else none else none else none else none else none else none else none else none else none else none else none) (by kernel_rfl) ?_
    rw [← hk]
    simp only [Bool.and_eq_true] at hc
    obtain ⟨d1, d2, d3, d4⟩ := of_decide_eq_true hc.1
    obtain ⟨d5, d6⟩ := of_decide_eq_true hc.2
    unfold cuS cuFr
    refine Eq.trans (cond_t (lenB_t (by (try simp only [List.length_cons, List.length_nil]); omega))) ?_
    refine Eq.trans (cond_t (lenB_t (by (try simp only [List.length_append, List.length_cons, List.length_nil]); omega))) ?_
    refine Eq.trans (cond_t (lenB_t (by (try simp only [List.length_append, List.length_cons, List.length_nil]); omega))) ?_
    refine Eq.trans (cond_t (lenB_t (by (try simp only [List.length_append, List.length_cons, List.length_nil]); omega))) ?_
    refine Eq.trans (cond_t (lenB_t (by (try simp only [List.length_append, List.length_cons, List.length_nil]); omega))) ?_
    refine Eq.trans (cond_t (lenB_t (by (try simp only [List.length_append, List.length_cons, List.length_nil]); omega))) ?_
    refine Eq.trans (cond_t (lenB_t (by (try simp only [List.length_append, List.length_cons, List.length_nil]); omega))) ?_
    refine Eq.trans (cond_t (lenB_t (by (try simp only [List.length_append, List.length_cons, List.length_nil]); omega))) ?_
    refine Eq.trans (cond_t (and_t (decide_eq_true (by omega)) (decide_eq_true (by omega)))) ?_
    refine Eq.trans (cond_t (lenB_t (by (try simp only [List.length_append, List.length_cons, List.length_nil]); omega))) ?_
    refine Eq.trans (cond_t (lenB_t (by (try simp only [List.length_append, List.length_cons, List.length_nil]); omega))) ?_
    refine Eq.trans (cond_t (small_t (by (try simp only [List.length_append, List.length_cons, List.length_nil, bytesAV_length]); omega))) ?_
    refine Eq.trans (cond_t (uN_sum _ _)) ?_
    refine Eq.trans (cond_t (lenB_t (by (try simp only [List.length_append, List.length_cons, List.length_nil, hexS_len]); omega))) ?_
    rfl
  · cases h
noncomputable def G34 : Env := { pure := [(55, ofT F55), (15, ofT F14), (38, ofT F38), (66, ofT F66)], conv := true }
theorem g34 : GOK Tryz.prog G34 := GOK.flags (GOK.also (GOK.also (GOK.also (GOK.also g0 ok66) ok38) ok15) ok55)
def F34 : List AV → Tr AV
  | [.int .i64 m, .str y, .int .u64 key, .str r', .slv (.int .u8) bs, .slv .str be] => .gd (decide (y.length ≤ 1000000 ∧ r'.length ≤ 1000000 ∧ bs.length ≤ 1000000000) && (inR m 0 99 && decide (be.length ≤ 1000000 ∧ (Lib.join (sL be) [10]).length ≤ 1000000))) (.leaf (.str (cuS key (dig m.toNat) y r' (hexS (sumF 0 bs)) (Lib.join (sL be) [10]))))
  | _ => .no
theorem ok34 : SumOK Tryz.prog 34 (ofT F34) ∧ SNat (ofT F34) := by
  refine fn0 g34 Tryz.func34 (by kernel_rfl) fun ρ avs k r h => ?_
  unfold F34 at h
  split at h
  · rename_i m y key r' bs be
    obtain ⟨hc, hk⟩ := gd_some h
    refine Eq.trans (b := bif inR m (0 : Int) (99 : Int) then bif lenB (([110, 61] : List UInt8).length + (dig m.toNat).length) then bif lenB ((([110, 61] : List UInt8) ++ dig m.toNat).length + ([59, 32, 121, 61] : List UInt8).length) then bif lenB ((([110, 61] : List UInt8) ++ dig m.toNat ++ ([59, 32, 121, 61] : List UInt8)).length + y.length) then bif lenB ((([110, 61] : List UInt8) ++ dig m.toNat ++ ([59, 32, 121, 61] : List UInt8) ++ y).length + ([59, 32, 114, 61] : List UInt8).length) then bif lenB ((([110, 61] : List UInt8) ++ dig m.toNat ++ ([59, 32, 121, 61] : List UInt8) ++ y ++ ([59, 32, 114, 61] : List UInt8)).length + r'.length) then bif lenB ((([110, 61] : List UInt8) ++ dig m.toNat ++ ([59, 32, 121, 61] : List UInt8) ++ y ++ ([59, 32, 114, 61] : List UInt8) ++ r').length + ([59, 32, 98, 61] : List UInt8).length) then bif small bs.length then bif uN (sumF (0 : Int) bs) then bif lenB ((([110, 61] : List UInt8) ++ dig m.toNat ++ ([59, 32, 121, 61] : List UInt8) ++ y ++ ([59, 32, 114, 61] : List UInt8) ++ r' ++ ([59, 32, 98, 61] : List UInt8)).length + (hexS (sumF (0 : Int) bs)).length) then bif lenB ((([110, 61] : List UInt8) ++ dig m.toNat ++ ([59, 32, 121, 61] : List UInt8) ++ y ++ ([59, 32, 114, 61] : List UInt8) ++ r' ++ ([59, 32, 98, 61] : List UInt8) ++ hexS (sumF (0 : Int) bs)).length + ([59, 32, 115, 61] : List UInt8).length) then bif small be.length && decide ((Lib.join (sL be) ([10] : List UInt8)).length ≤ (1000000000000 : Nat)) then bif lenB ((([110, 61] : List UInt8) ++ dig m.toNat ++ ([59, 32, 121, 61] : List UInt8) ++ y ++ ([59, 32, 114, 61] : List UInt8) ++ r' ++ ([59, 32, 98, 61] : List UInt8) ++ hexS (sumF (0 : Int) bs) ++ ([59, 32, 115, 61] : List UInt8)).length + (Lib.join (sL be) ([10] : List UInt8)).length) then bif lenB (([110, 61] : List UInt8) ++ dig m.toNat ++ ([59, 32, 121, 61] : List UInt8) ++ y ++ ([59, 32, 114, 61] : List UInt8) ++ r' ++ ([59, 32, 98, 61] : List UInt8) ++ hexS (sumF (0 : Int) bs) ++ ([59, 32, 115, 61] : List UInt8) ++ Lib.join (sL be) ([10] : List UInt8)).length then bif small (bytesAV (([110, 61] : List UInt8) ++ dig m.toNat ++ ([59, 32, 121, 61] : List UInt8) ++ y ++ ([59, 32, 114, 61] : List UInt8) ++ r' ++ ([59, 32, 98, 61] : List UInt8) ++ hexS (sumF (0 : Int) bs) ++ ([59, 32, 115, 61] : List UInt8) ++ Lib.join (sL be) ([10] : List UInt8))).length then bif uN (sumF key (bytesAV (([110, 61] : List UInt8) ++ dig m.toNat ++ ([59, 32, 121, 61] : List UInt8) ++ y ++ ([59, 32, 114, 61] : List UInt8) ++ r' ++ ([59, 32, 98, 61] : List UInt8) ++ hexS (sumF (0 : Int) bs) ++ ([59, 32, 115, 61] : List UInt8) ++ Lib.join (sL be) ([10] : List UInt8)))) then bif lenB ((([110, 61] : List UInt8) ++ dig m.toNat ++ ([59, 32, 121, 61] : List UInt8) ++ y ++ ([59, 32, 114, 61] : List UInt8) ++ r' ++ ([59, 32, 98, 61] : List UInt8) ++ hexS (sumF (0 : Int) bs) ++ ([59, 32, 115, 61] : List UInt8)).length + (hexS (sumF key (bytesAV (([110, 61] : List UInt8) ++ dig m.toNat ++ ([59, 32, 121, 61] : List UInt8) ++ y ++ ([59, 32, 114, 61] : List UInt8) ++ r' ++ ([59, 32, 98, 61] : List UInt8) ++ hexS (sumF (0 : Int) bs) ++ ([59, 32, 115, 61] : List UInt8) ++ Lib.join (sL be) ([10] : List UInt8))))).length) then k (AV.str (([110, 61] : List UInt8) ++ dig m.toNat ++ ([59, 32, 121, 61] : List UInt8) ++ y ++ ([59, 32, 114, 61] : List UInt8) ++ r' ++ ([59, 32, 98, 61] : List UInt8) ++ hexS (sumF (0 : Int) bs) ++ ([59, 32, 115, 61] : List UInt8) ++ hexS (sumF key (bytesAV (([110, 61] : List UInt8) ++ dig m.toNat ++ ([59, 32, 121, 61] : List UInt8) ++ y ++ ([59, 32, 114, 61] : List UInt8) ++ r' ++ ([59, 32, 98, 61] : List UInt8) ++ hexS (sumF (0 : Int) bs) ++ ([59, 32, 115, 61] : List UInt8) ++ Lib.join (sL be) ([10] : List UInt8)))))) else none else none else none else none else none else none else none else none else none else none else none else none else none else none else none else none else none) (by kernel_rfl) ?_
    rw [← hk]
    simp only [Bool.and_eq_true] at hc
    obtain ⟨hc1, hm, hc3⟩ := hc
    obtain ⟨d1, d2, d3⟩ := of_decide_eq_true hc1
    obtain ⟨d5, d6⟩ := of_decide_eq_true hc3
    have hdg := dig_len m.toNat
    unfold cuS cuFr
    refine Eq.trans (cond_t hm) ?_
    refine Eq.trans (cond_t (lenB_t (by (try simp only [List.length_cons, List.length_nil]); omega))) ?_
    refine Eq.trans (cond_t (lenB_t (by (try simp only [List.length_append, List.length_cons, List.length_nil]); omega))) ?_
    refine Eq.trans (cond_t (lenB_t (by (try simp only [List.length_append, List.length_cons, List.length_nil]); omega))) ?_
    refine Eq.trans (cond_t (lenB_t (by (try simp only [List.length_append, List.length_cons, List.length_nil]); omega))) ?_
    refine Eq.trans (cond_t (lenB_t (by (try simp only [List.length_append, List.length_cons, List.length_nil]); omega))) ?_
    refine Eq.trans (cond_t (lenB_t (by (try simp only [List.length_append, List.length_cons, List.length_nil]); omega))) ?_
    refine Eq.trans (cond_t (small_t (by (try simp only [List.length_append, List.length_cons, List.length_nil, hexS_len, bytesAV_length]); omega))) ?_
    refine Eq.trans (cond_t (uN_sum _ _)) ?_
    refine Eq.trans (cond_t (lenB_t (by (try simp only [List.length_append, List.length_cons, List.length_nil, hexS_len]); omega))) ?_
    refine Eq.trans (cond_t (lenB_t (by (try simp only [List.length_append, List.length_cons, List.length_nil, hexS_len]); omega))) ?_
    refine Eq.trans (cond_t (and_t (small_t (by omega)) (decide_eq_true (by omega)))) ?_
    refine Eq.trans (cond_t (lenB_t (by (try simp only [List.length_append, List.length_cons, List.length_nil, hexS_len]); omega))) ?_
    refine Eq.trans (cond_t (lenB_t (by (try simp only [List.length_append, List.length_cons, List.length_nil, hexS_len]); omega))) ?_
    refine Eq.trans (cond_t (small_t (by (try simp only [List.length_append, List.length_cons, List.length_nil, hexS_len, bytesAV_length]); omega))) ?_
    refine Eq.trans (cond_t (uN_sum _ _)) ?_
    refine Eq.trans (cond_t (lenB_t (by (try simp only [List.length_append, List.length_cons, List.length_nil, hexS_len]); omega))) ?_
    rfl
  · cases h
end Go.Proofs.YthdhfmdhjanoaaaGreatDoor
