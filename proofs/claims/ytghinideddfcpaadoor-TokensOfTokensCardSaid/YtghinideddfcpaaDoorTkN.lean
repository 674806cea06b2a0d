/-
  TokensOfTokens, the tied card: for every text the call returns true, and the arguments read as before; the listed tables read as the program's text lays them.
-/
import Derived.Test.YtghinideddfcpaaDoorTkM
import Derived.Test.YtghinideddfcpaaDoorCards
import Derived.Test.YtghinideddfcpaaDoorTie
import Derived.Stop.Joined
namespace Go.Proofs.YtghinideddfcpaaDoor
open Go.Ev Go.Lib

/-! Joined -/
def jt (p : List UInt8) (i : Int) : List (List UInt8) → List UInt8
  | [] => []
  | x :: r => bif decide (i > 0) then p ++ x ++ Lib.joinTail p r else x ++ Lib.joinTail p r
theorem joinTail_cons (p x : List UInt8) (r : List (List UInt8)) : Lib.joinTail p (x :: r) = p ++ x ++ Lib.joinTail p r := by unfold Lib.joinTail; rfl
theorem jt_pos {p : List UInt8} {i : Int} (h : i > 0) (l : List (List UInt8)) : jt p i l = Lib.joinTail p l := by
  cases l with
  | nil => rfl
  | cons x r =>
    unfold jt
    rw [decide_eq_true h, joinTail_cons]; rfl
noncomputable def b12 : Code := ((Tryd.f12.body.map loopsOf).getD []).headD .skip
def jnS (p out : List UInt8) (i : Int) (l : List AV) : List UInt8 := out ++ jt p i (sL l)
def L12 : List AV → List (Option Row) → Tr LOut
  | [.slv .str es, .str p, .str out, .int .i64 i], [] =>
    .gd (cnt es.length i es.length && decide ((jnS p out i (es.drop i.toNat)).length ≤ 1000000000000)) (.leaf (.exit 0, [.slv .str es, .str p, .str (jnS p out i (es.drop i.toNat)), .int .i64 es.length], []))
  | _, _ => .no
def l12 : Ev.Loop := ⟨{ len := 25, slots := [0, 1, 5, 6] }, ofL L12⟩
def μ12 (vs : List AV) (_ : List (Option Row)) : Nat := match vs with
  | [.slv _ es, _, _, .int _ i] => ((es.length : Int) - i).toNat
  | _ => 0
theorem loop12 : LoopOK Tryd.prog G0 [(3, l12)] b12 l12 := by
  refine loopT g0.natOK rfl (KOK.nil (by kernel_rfl)) μ12 (fun ρ vs rs k r h => ?_)
  unfold L12 at h
  split at h
  · rename_i es p out i
    obtain ⟨hc, hk⟩ := gd_some h
    simp only [Bool.and_eq_true] at hc
    obtain ⟨hc, hl⟩ := hc
    obtain ⟨_, hs, j, rfl, hj⟩ := cnt_spec hc
    rw [Int.toNat_natCast] at hk hl
    refine Eq.trans (b := bif decide ((↑j : Int) < (↑es.length : Int)) then bif decide ((↑j : Int) > (0 : Int)) then bif lenB (out.length + p.length) then bif inb (↑j : Int) es.length then bif lenB ((out ++ p).length + (sE (es.getD j AV.unk)).length) then bif decide (((↑es.length : Int) - IntKind.i64.wrap ((↑j : Int) + (1 : Int))).toNat < ((↑es.length : Int) - (↑j : Int)).toNat) then bif cnt (↑es.length : Int) (IntKind.i64.wrap ((↑j : Int) + (1 : Int))) es.length && decide ((jnS p (out ++ p ++ (sE (es.getD j AV.unk))) (IntKind.i64.wrap ((↑j : Int) + (1 : Int))) (List.drop (IntKind.i64.wrap ((↑j : Int) + (1 : Int))).toNat es)).length ≤ (1000000000000 : Nat)) then k (Ex.exit (0 : Nat)) [AV.slv Sh.str es, AV.str p, AV.str (jnS p (out ++ p ++ (sE (es.getD j AV.unk))) (IntKind.i64.wrap ((↑j : Int) + (1 : Int))) (List.drop (IntKind.i64.wrap ((↑j : Int) + (1 : Int))).toNat es)), AV.int IntKind.i64 (↑es.length : Int)] [] else none else none else none else none else none else bif inb (↑j : Int) es.length then bif lenB (out.length + (sE (es.getD j AV.unk)).length) then bif decide (((↑es.length : Int) - IntKind.i64.wrap ((↑j : Int) + (1 : Int))).toNat < ((↑es.length : Int) - (↑j : Int)).toNat) then bif cnt (↑es.length : Int) (IntKind.i64.wrap ((↑j : Int) + (1 : Int))) es.length && decide ((jnS p (out ++ (sE (es.getD j AV.unk))) (IntKind.i64.wrap ((↑j : Int) + (1 : Int))) (List.drop (IntKind.i64.wrap ((↑j : Int) + (1 : Int))).toNat es)).length ≤ (1000000000000 : Nat)) then k (Ex.exit (0 : Nat)) [AV.slv Sh.str es, AV.str p, AV.str (jnS p (out ++ (sE (es.getD j AV.unk))) (IntKind.i64.wrap ((↑j : Int) + (1 : Int))) (List.drop (IntKind.i64.wrap ((↑j : Int) + (1 : Int))).toNat es)), AV.int IntKind.i64 (↑es.length : Int)] [] else none else none else none else none else k (Ex.exit (0 : Nat)) [AV.slv Sh.str es, AV.str p, AV.str out, AV.int IntKind.i64 (↑j : Int)] []) (by kernel_rfl) ?_
    rw [← hk]
    have hl := of_decide_eq_true hl
    by_cases hlt : j < es.length
    · obtain ⟨e1, e2, e3, e4, e5⟩ := cnt_facts hlt hs
      have e6 : (((j + 1 : Nat) : Int)).toNat = j + 1 := Int.toNat_natCast _
      rw [drop_getD hlt] at hl ⊢
      by_cases h0 : j > 0
      · have hst : jnS p out j (es.getD j .unk :: es.drop (j + 1)) = jnS p (out ++ p ++ sE (es.getD j .unk)) ((j + 1 : Nat) : Int) (es.drop (j + 1)) := by
          unfold jnS
          rw [jt_pos (by omega), jt_pos (by omega)]
          simp only [sL, List.map_cons, joinTail_cons, List.append_assoc]
        rw [hst] at hl ⊢
        have hlen : (out ++ p ++ sE (es.getD j .unk)).length ≤ 1000000000000 := Nat.le_trans (List.prefix_append _ _).length_le hl
        have hl3 : (out ++ p ++ sE (es.getD j .unk)).length = (out ++ p).length + (sE (es.getD j .unk)).length := List.length_append
        have hl2 : (out ++ p).length = out.length + p.length := List.length_append
        simp only [e1, e2, e3, e4, e5, e6, cond_true, Bool.true_and]
        refine Eq.trans (cond_t (decide_eq_true (by omega))) (Eq.trans (cond_t (decide_eq_true (by omega))) (Eq.trans (cond_t (decide_eq_true (by omega))) (Eq.trans (cond_t (decide_eq_true hl)) rfl)))
      · obtain rfl : j = 0 := by omega
        have hst : jnS p out ((0 : Nat) : Int) (es.getD 0 .unk :: es.drop (0 + 1)) = jnS p (out ++ sE (es.getD 0 .unk)) ((0 + 1 : Nat) : Int) (es.drop (0 + 1)) := by
          unfold jnS
          rw [jt_pos (p := p) (i := ((0 + 1 : Nat) : Int)) (by omega)]
          simp only [List.append_assoc]
          rfl
        rw [hst] at hl ⊢
        have hlen : (out ++ sE (es.getD 0 .unk)).length ≤ 1000000000000 := Nat.le_trans (List.prefix_append _ _).length_le hl
        have hl3 : (out ++ sE (es.getD 0 .unk)).length = out.length + (sE (es.getD 0 .unk)).length := List.length_append
        simp only [e1, e2, e3, e4, e5, e6, cond_true, Bool.true_and]
        refine Eq.trans (cond_f (decide_eq_false (by omega))) (Eq.trans (cond_t (decide_eq_true (by omega))) (Eq.trans (cond_t (decide_eq_true hl)) rfl))
    · obtain rfl : j = es.length := by omega
      rw [decide_eq_false (by omega), List.drop_length]
      show _ = k _ [_, _, .str (out ++ []), _] _
      rw [List.append_nil]
      rfl
  · cases h
def F12 : List AV → Tr AV
  | [.slv .str es, .str p] => .gd (small es.length && decide ((Lib.join (sL es) p).length ≤ 1000000000000)) (.leaf (.str (Lib.join (sL es) p)))
  | _ => .no
theorem jt_zero (p : List UInt8) (l : List (List UInt8)) : jt p 0 l = Lib.join l p := by
  cases l with
  | nil => rfl
  | cons x r => rw [Lib.join_cons]; rfl
theorem ok12 : SumOK Tryd.prog 12 (ofT F12) ∧ SNat (ofT F12) := by
  refine fn1 (K := [(3, l12)]) (b := b12) (l := l12) g0 Tryd.func12 (by kernel_rfl) (by kernel_rfl) loop12 fun ρ avs k r h => ?_
  unfold F12 at h
  split at h
  · rename_i es p
    obtain ⟨hc, hk⟩ := gd_some h
    simp only [Bool.and_eq_true] at hc
    refine Eq.trans (b := bif cnt (↑es.length : Int) (0 : Int) es.length && decide ((jnS p ([] : List UInt8) (0 : Int) (List.drop (0 : Nat) es)).length ≤ (1000000000000 : Nat)) then k (AV.str (jnS p ([] : List UInt8) (0 : Int) (List.drop (0 : Nat) es))) else none) (by kernel_rfl) ?_
    rw [← hk]
    have e : jnS p [] 0 (es.drop 0) = Lib.join (sL es) p := by unfold jnS; rw [jt_zero, List.nil_append, List.drop_zero]
    rw [e, cnt_zero hc.1, hc.2]
    rfl
  · cases h
/-! the law -/
noncomputable def G4 : Env := { pure := [(6, ofT F6), (7, evF Tryd.prog G0 [] Tryd.f7), (8, ofT F8), (9, ofT F9), (12, ofT F12)] }
theorem g4 : GOK Tryd.prog G4 := GOK.also (GOK.also (GOK.also (GOK.also (GOK.also g0 ok12) ok9) ok8) (inl g0 Tryd.func7 (by kernel_rfl))) ok6
noncomputable def b4 : Code := ((Tryd.f4.body.map loopsOf).getD []).headD .skip
def ascN (b : UInt8) : Bool := decide (((b.toNat : Nat) : Int) < 128)
def L4 : List AV → List (Option Row) → Tr LOut
  | [.str s, .slv .str l, .slv .str m, .bool a, .int .i64 i], [] =>
    .gd (cnt s.length i s.length) (.leaf (.exit 0, [.str s, .slv .str l, .slv .str m, .bool (a && (s.drop i.toNat).all ascN), .int .i64 s.length], []))
  | _, _ => .no
def l4 : Ev.Loop := ⟨{ len := 56, slots := [0, 3, 5, 7, 8] }, ofL L4⟩
def μ4 (vs : List AV) (_ : List (Option Row)) : Nat := match vs with
  | [.str s, _, _, _, .int _ i] => ((s.length : Int) - i).toNat
  | _ => 0
theorem loop4 : LoopOK Tryd.prog G4 [(9, l4)] b4 l4 := by
  refine loopT g4.natOK rfl (KOK.nil (by kernel_rfl)) μ4 (fun ρ vs rs k r h => ?_)
  unfold L4 at h
  split at h
  · rename_i s l m a i
    obtain ⟨hc, hk⟩ := gd_some h
    obtain ⟨_, hs, j, rfl, hj⟩ := cnt_spec hc
    rw [Int.toNat_natCast] at hk
    refine Eq.trans (b := bif decide ((↑j : Int) < (↑s.length : Int)) then bif a then bif inb (↑j : Int) s.length then bif decide (((↑s.length : Int) - IntKind.i64.wrap ((↑j : Int) + (1 : Int))).toNat < ((↑s.length : Int) - (↑j : Int)).toNat) then bif cnt (↑s.length : Int) (IntKind.i64.wrap ((↑j : Int) + (1 : Int))) s.length then k (Ex.exit (0 : Nat)) [AV.str s, AV.slv Sh.str l, AV.slv Sh.str m, AV.bool (decide ((↑(s.getD j (0 : UInt8)).toNat : Int) < (128 : Int)) && (List.drop (IntKind.i64.wrap ((↑j : Int) + (1 : Int))).toNat s).all ascN), AV.int IntKind.i64 (↑s.length : Int)] [] else none else none else none else bif decide (((↑s.length : Int) - IntKind.i64.wrap ((↑j : Int) + (1 : Int))).toNat < ((↑s.length : Int) - (↑j : Int)).toNat) then bif cnt (↑s.length : Int) (IntKind.i64.wrap ((↑j : Int) + (1 : Int))) s.length then k (Ex.exit (0 : Nat)) [AV.str s, AV.slv Sh.str l, AV.slv Sh.str m, AV.bool (false && (List.drop (IntKind.i64.wrap ((↑j : Int) + (1 : Int))).toNat s).all ascN), AV.int IntKind.i64 (↑s.length : Int)] [] else none else none else k (Ex.exit (0 : Nat)) [AV.str s, AV.slv Sh.str l, AV.slv Sh.str m, AV.bool a, AV.int IntKind.i64 (↑j : Int)] []) (by kernel_rfl) ?_
    rw [← hk]
    by_cases hlt : j < s.length
    · obtain ⟨e1, e2, e3, e4, e5⟩ := cnt_facts hlt hs
      have e6 : (((j + 1 : Nat) : Int)).toNat = j + 1 := Int.toNat_natCast _
      have hd : s.drop j = s.getD j 0 :: s.drop (j + 1) := by
        rw [List.drop_eq_getElem_cons hlt]
        congr 1
        simp [List.getD, hlt]
      rw [hd, List.all_cons, e3]
      simp only [e6]
      refine Eq.trans (cond_t e1) ?_
      have hA : ascN (s.getD j 0) = decide ((((s.getD j 0).toNat : Nat) : Int) < 128) := rfl
      rw [hA]
      generalize decide ((((s.getD j 0).toNat : Nat) : Int) < 128) = d
      generalize (s.drop (j + 1)).all ascN = e
      cases a
      · refine Eq.trans (cond_f rfl) (Eq.trans (cond_t e5) (Eq.trans (cond_t e4) ?_))
        rw [Bool.false_and, Bool.false_and]; rfl
      · refine Eq.trans (cond_t rfl) (Eq.trans (cond_t e2) (Eq.trans (cond_t e5) (Eq.trans (cond_t e4) ?_)))
        rw [Bool.true_and]; rfl
    · obtain rfl : j = s.length := by omega
      rw [decide_eq_false (by omega), List.drop_length]
      show _ = k _ [_, _, _, .bool (a && true), _] _
      rw [Bool.and_true]
      rfl
  · cases h
theorem tkL_each : ∀ (f : Nat) (s one : List UInt8) (n : Int), s.length ≤ f → (one.length : Int) ≤ 4 * n → ∀ x ∈ tkL s one n, x.length ≤ 80
  | f, [], one, n, _, _ => by rw [tkL_nil]; intro x hx; cases hx
  | f + 1, c :: s, one, n, h, hn => by
    obtain ⟨h1, h2⟩ := decodeL_fit (u := c :: s) (by simp)
    have hd : ((c :: s).drop (decodeL (c :: s)).2).length ≤ f := by rw [List.length_drop]; simp at h ⊢; omega
    rw [tkL_step (by simp)]
    have he := encA_len (toLowerU ((decodeL (c :: s)).1 : Nat))
    cases ltU ((decodeL (c :: s)).1 : Nat)
    · intro x hx
      rcases List.mem_append.1 hx with hx | hx
      · cases hr : inR n 3 20
        · rw [hr] at hx; cases hx
        · rw [hr] at hx
          have := (inR_spec hr).2
          simp at hx
          subst hx
          omega
      · exact tkL_each f _ [] 0 hd (by simp) x hx
    · exact tkL_each f _ _ _ hd (by rw [List.length_append]; omega)
theorem tkS_each (s : List UInt8) : ∀ x ∈ tkS [] s, x.length ≤ 80 := tkL_each _ (s ++ [32]) [] 0 (Nat.le_refl _) (by simp)
theorem jtl_len : ∀ r : List (List UInt8), (∀ x ∈ r, x.length ≤ 80) → (joinTail [32] r).length ≤ 81 * r.length
  | [], _ => Nat.zero_le _
  | y :: r, h => by
    have h1 := h y (by simp)
    have h2 := jtl_len r fun x hx => h x (by simp [hx])
    rw [joinTail_cons, List.length_append, List.length_append, List.length_singleton, List.length_cons]
    omega
theorem jn_len {l : List (List UInt8)} (h : ∀ x ∈ l, x.length ≤ 80) : (join l [32]).length ≤ 81 * l.length := by
  cases l with
  | nil => exact Nat.zero_le _
  | cons x r =>
    have h1 := h x (by simp)
    have h2 := jtl_len r fun x hx => h x (by simp [hx])
    rw [join_cons, List.length_append, List.length_cons]
    omega
theorem law4 (s : List UInt8) : evF Tryd.prog G4 [(9, l4)] Tryd.f4 AV [.str s] some = some (.bool true) := by
  refine Eq.trans (b := bif decide ((↑s.length : Int) > (4000 : Int)) || txB s && decide ((tkF (fldW s)).length ≤ (1000000 : Nat)) then bif splC s != (0 : Int) then some (AV.bool true) else bif small (List.map AV.str (splL s)).length && decide ((join (sL (List.map AV.str (splL s))) ([(32 : UInt8)] : List UInt8)).length ≤ (1000000000000 : Nat)) then bif decide ((↑(join (sL (List.map AV.str (splL s))) ([(32 : UInt8)] : List UInt8)).length : Int) > (4000 : Int)) || txB (join (sL (List.map AV.str (splL s))) ([(32 : UInt8)] : List UInt8)) && decide ((tkF (fldW (join (sL (List.map AV.str (splL s))) ([(32 : UInt8)] : List UInt8)))).length ≤ (1000000 : Nat)) then bif splC (join (sL (List.map AV.str (splL s))) ([(32 : UInt8)] : List UInt8)) != (0 : Int) then bif splC (join (sL (List.map AV.str (splL s))) ([(32 : UInt8)] : List UInt8)) == (1 : Int) && (splI (join (sL (List.map AV.str (splL s))) ([(32 : UInt8)] : List UInt8)) == (-1 : Int) && true) then some (AV.bool true) else some (AV.bool false) else bif cnt (↑s.length : Int) (0 : Int) s.length then bif !(true && (List.drop (0 : Nat) s).all ascN) then some (AV.bool true) else bif small (List.map AV.str (splL s)).length then bif stB (List.map AV.str (splL s)) (List.map AV.str (splL (join (sL (List.map AV.str (splL s))) ([(32 : UInt8)] : List UInt8)))) then some (AV.bool true) else some (AV.bool false) else none else none else none else none else none) (by kernel_rfl) ?_
  refine Eq.trans (cond_t spl_ok) ?_
  by_cases h : (s.length : Int) > 4000
  · rw [(spl_big h).2.1]; rfl
  · rw [spl_fits h]
    obtain ⟨h1, h2, h3⟩ := fstL_ss (tkS [] s)
    have hx : sL ((splL s).map AV.str) = fstL (tkS [] s) := by rw [sL_strs, splL_fst h]
    have hsm : small ((splL s).map AV.str).length = true := small_t (by rw [List.length_map, splL_fst h]; omega)
    have hj := jn_len fun x hx => tkS_each s x (h3 x hx)
    rw [hx]
    refine Eq.trans (cond_f rfl) (Eq.trans (cond_t (and_t hsm (decide_eq_true (by omega)))) (Eq.trans (cond_t spl_ok) ?_))
    by_cases h4 : ((join (fstL (tkS [] s)) [32]).length : Int) > 4000
    · rw [(spl_big h4).2.1, (spl_big h4).2.2]; rfl
    · rw [spl_fits h4]
      refine Eq.trans (cond_f rfl) (Eq.trans (cond_t (cnt_zero (small_t (by omega)))) ?_)
      rw [List.drop_zero, Bool.true_and]
      cases ha : s.all ascN
      · rfl
      · have hasc : asc s := fun b hb => by
          have := of_decide_eq_true (List.all_eq_true.1 ha b hb)
          omega
        have hl : splL (join (fstL (tkS [] s)) [32]) = splL s := by
          rw [splL_fst h4, splL_fst h, tkS_joined _ fun y hy => tkS_asc hasc y (h3 y hy), fstL_id h1 h2]
        refine Eq.trans (cond_f rfl) (Eq.trans (cond_t hsm) (cond_t ?_))
        rw [hl]
        exact stB_self _
theorem okL4 : SumOK Tryd.prog 4 (evF Tryd.prog G4 [(9, l4)] Tryd.f4) := sum1 g4 Tryd.func4 (by kernel_rfl) (by kernel_rfl) loop4 fun _ _ _ _ h => h

theorem spec4 (H : Type) : ∀ ds : List (DataW H), ds.length = Tryd.f4.params.size → Rows.tokensOfTokensSpec.fn H ds = { results := [.lit (.bool true)], args := ds }
  | [_], _ => rfl

set_option maxRecDepth 100000 in
theorem lifted4 (os : Os) (started : os.Started) (H : Type) (enc : TypeId × Value → H) :
    ReturnsInHanded {} Tryd.checked os 4 .any (fun w args => (Rows.tokensOfTokensSpec.pre enc Tryd.prog Tryd.f4 Rows.tokensOfTokensRow.domain false w args ∧ laidMetH Tryd.prog Rows.tokensOfTokensRow.laid w) ∧ sizedMet enc Tryd.prog Tryd.f4 (OpenSpec.ofChange Rows.tokensOfTokensSpec) false w args)
      (Rows.tokensOfTokensSpec.post enc Tryd.prog Tryd.f4 false true false false) := by
  refine returnsInHanded_of_change_and (C := Tryd.checked) (X := fun w _ => laidMetH Tryd.prog Rows.tokensOfTokensRow.laid w) (fun _ _ _ hh h => h.of_heap hh) own started (by kernel_rfl) Tryd.func4
    (ChangeSpec.witness_shaped (enc := enc) (C := Tryd.checked) (os := os) (X := fun w _ => laidMetH Tryd.prog Rows.tokensOfTokensRow.laid w) false (World.laidAll Tryd.prog os Rows.tokensOfTokensRow.laid) #[.string ⟨#[]⟩] 8 (World.laidAll_os _ _ _)
      (World.shaped_of_ZipB (by kernel_rfl) (by kernel_rfl)) (by kernel_rfl) (by kernel_rfl) (by kernel_rfl)
      (by rw [MakeChecks.laidMetH_plain _ _ _ (by kernel_rfl)]; exact laidMet_laidAll _ (by kernel_rfl) (by kernel_rfl))) ?_
  intro W base args ds gs before hval hW _ hz hx _
  refine contract_of (bk H) (n := 12) (tb := 4) (F := evF Tryd.prog G4 [(9, l4)] Tryd.f4) (by kernel_rfl) (by kernel_rfl) (by kernel_rfl) rfl (by kernel_rfl) (by kernel_rfl) (spec4 H) (okL4) (fun avs hg => ?_) hval hz hW (glb_of hx)
  have hh : hasAll [.str] avs = true := hg.has
  obtain ⟨v0, cs, rfl, h0, hh⟩ := hasAll_cons hh
  obtain rfl := hasAll_nil hh
  obtain ⟨s, rfl⟩ := has_str h0
  exact law4 s

theorem row_holds4 : Rows.TokensOfTokensSaid :=
  OpenClaim.holds_of_wide 4 Tryd.f4 rfl rfl rfl rfl rfl rfl rfl ⟨rfl, rfl, rfl, rfl, rfl⟩ rfl rfl rfl rfl rfl (by kernel_rfl) Tryd.func4 (by kernel_rfl)
    (of_decide_eq_true (by kernel_rfl)) (by unfold Func.isWrapper; first | (rw [if_pos (by decide +kernel)]; kernel_rfl) | (rw [if_neg (by decide +kernel)]; exact ⟨rfl, rfl⟩))
    (fun os started H enc _ => lifted4 os started H enc)

theorem tokens_of_tokens : Rows.TokensOfTokensCardSaid :=
  Claim7.holds_tied_plain_at .later [] [.data, .data, .pinned, .pinned, .pinned, .pinned] true (true, "472318986fd433a8a1398d46bb6cd759247b45fa375fd29bcc0512f3d0138014") false row_holds4 (fun _ h => by cases h) (by kernel_rfl) (fun _ h => by cases h) tokensOfTokens_row_tie rfl ⟨rfl, rfl⟩ (by kernel_rfl) rfl
    (fun f fn hf hfn => by
      obtain rfl : f = 4 := Option.some.inj ((show Tryd.prog.funcNamed "posthouse/posthouselaw5.TokensOfTokens" = some 4 by kernel_rfl).symm.trans hf) |>.symm
      obtain rfl : fn = Tryd.f4 := (Option.some.inj (Tryd.func4.symm.trans hfn)).symm
      exact ⟨by kernel_rfl, fun j t ht => by
        have hm : t ∈ Tryd.f4.params.toList := Array.mem_def.1 (Array.mem_of_getElem? ht)
        have hall : (Tryd.f4.params.toList.all fun u => !Tryd.prog.wantsStandIn u) = true := by kernel_rfl
        exact (show Tryd.prog.wantsStandIn t = false by simpa using List.all_eq_true.1 hall t hm)⟩)
    (by kernel_rfl)

end Go.Proofs.YtghinideddfcpaaDoor
