/-
  GreylistAcceptsInTime: for every input the call returns true, and the arguments read as before. No condition.
-/
import Derived.Test.YtbkokbmodpkamaaGyG
namespace Go.Proofs.Ytbkokbmodpkamaa
open Go.Ev

noncomputable def b4 : Code := ((Try.f4.body.map loopsOf).getD []).headD .skip
def isF (x : K3) (now : Int) (e : AV) : Bool := k3eq (kOf e) x && aOf e == now
def L4 : List AV → List (Option Row) → Tr LOut
  | [.str hh, .str f, .str t, .int .i64 now, .int .i64 w, .slv (.agg [.str, .str, .str, .int .i64, .int .i64, .bool]) es, .bool z, .int .i64 i], [] =>
    .gd (cnt es.length i es.length) (.leaf (.exit 0, [.str hh, .str f, .str t, .int .i64 now, .int .i64 w, .slv sE es, .bool (z || (es.drop i.toNat).any (isF (hh, f, t) now)), .int .i64 es.length], []))
  | _, _ => .no
def l4 : Ev.Loop := ⟨{ len := 121, slots := [1, 2, 3, 4, 5, 13, 16, 17] }, ofL L4⟩
def μ4 (vs : List AV) (_ : List (Option Row)) : Nat := match vs with
  | [_, _, _, _, _, .slv _ es, _, .int _ i] => ((es.length : Int) - i).toNat
  | _ => 0
theorem loop4 : LoopOK Try.prog GL [(6, l4)] b4 l4 := by
  refine loopT gl.natOK rfl (KOK.nil (by kernel_rfl)) μ4 (fun ρ vs rs k r h => ?_)
  unfold L4 at h
  split at h
  · rename_i hh f t now w es z i
    obtain ⟨hc, hk⟩ := gd_some h
    obtain ⟨_, hs, j, rfl, hj⟩ := cnt_spec hc
    rw [Int.toNat_natCast] at hk
    refine Eq.trans (b := bif decide ((↑j : Int) < (↑es.length : Int)) then bif inb (↑j : Int) es.length then bif z then bif decide (((↑es.length : Int) - IntKind.i64.wrap ((↑j : Int) + (1 : Int))).toNat < ((↑es.length : Int) - (↑j : Int)).toNat) then bif cnt (↑es.length : Int) (IntKind.i64.wrap ((↑j : Int) + (1 : Int))) es.length then k (Ex.exit (0 : Nat)) [AV.str hh, AV.str f, AV.str t, AV.int IntKind.i64 now, AV.int IntKind.i64 w, AV.slv (Sh.agg [Sh.str, Sh.str, Sh.str, Sh.int IntKind.i64, Sh.int IntKind.i64, Sh.bool]) es, AV.bool (true || (List.drop (IntKind.i64.wrap ((↑j : Int) + (1 : Int))).toNat es).any (isF (hh, f, t) now)), AV.int IntKind.i64 (↑es.length : Int)] [] else none else none else bif (hOf (es.getD j AV.unk)) == hh then bif (fOf (es.getD j AV.unk)) == f then bif (tOf (es.getD j AV.unk)) == t then bif decide (((↑es.length : Int) - IntKind.i64.wrap ((↑j : Int) + (1 : Int))).toNat < ((↑es.length : Int) - (↑j : Int)).toNat) then bif cnt (↑es.length : Int) (IntKind.i64.wrap ((↑j : Int) + (1 : Int))) es.length then k (Ex.exit (0 : Nat)) [AV.str hh, AV.str f, AV.str t, AV.int IntKind.i64 now, AV.int IntKind.i64 w, AV.slv (Sh.agg [Sh.str, Sh.str, Sh.str, Sh.int IntKind.i64, Sh.int IntKind.i64, Sh.bool]) es, AV.bool ((aOf (es.getD j AV.unk)) == now || (List.drop (IntKind.i64.wrap ((↑j : Int) + (1 : Int))).toNat es).any (isF (hh, f, t) now)), AV.int IntKind.i64 (↑es.length : Int)] [] else none else none else bif decide (((↑es.length : Int) - IntKind.i64.wrap ((↑j : Int) + (1 : Int))).toNat < ((↑es.length : Int) - (↑j : Int)).toNat) then bif cnt (↑es.length : Int) (IntKind.i64.wrap ((↑j : Int) + (1 : Int))) es.length then k (Ex.exit (0 : Nat)) [AV.str hh, AV.str f, AV.str t, AV.int IntKind.i64 now, AV.int IntKind.i64 w, AV.slv (Sh.agg [Sh.str, Sh.str, Sh.str, Sh.int IntKind.i64, Sh.int IntKind.i64, Sh.bool]) es, AV.bool (false || (List.drop (IntKind.i64.wrap ((↑j : Int) + (1 : Int))).toNat es).any (isF (hh, f, t) now)), AV.int IntKind.i64 (↑es.length : Int)] [] else none else none else bif decide (((↑es.length : Int) - IntKind.i64.wrap ((↑j : Int) + (1 : Int))).toNat < ((↑es.length : Int) - (↑j : Int)).toNat) then bif cnt (↑es.length : Int) (IntKind.i64.wrap ((↑j : Int) + (1 : Int))) es.length then k (Ex.exit (0 : Nat)) [AV.str hh, AV.str f, AV.str t, AV.int IntKind.i64 now, AV.int IntKind.i64 w, AV.slv (Sh.agg [Sh.str, Sh.str, Sh.str, Sh.int IntKind.i64, Sh.int IntKind.i64, Sh.bool]) es, AV.bool (false || (List.drop (IntKind.i64.wrap ((↑j : Int) + (1 : Int))).toNat es).any (isF (hh, f, t) now)), AV.int IntKind.i64 (↑es.length : Int)] [] else none else none else bif decide (((↑es.length : Int) - IntKind.i64.wrap ((↑j : Int) + (1 : Int))).toNat < ((↑es.length : Int) - (↑j : Int)).toNat) then bif cnt (↑es.length : Int) (IntKind.i64.wrap ((↑j : Int) + (1 : Int))) es.length then k (Ex.exit (0 : Nat)) [AV.str hh, AV.str f, AV.str t, AV.int IntKind.i64 now, AV.int IntKind.i64 w, AV.slv (Sh.agg [Sh.str, Sh.str, Sh.str, Sh.int IntKind.i64, Sh.int IntKind.i64, Sh.bool]) es, AV.bool (false || (List.drop (IntKind.i64.wrap ((↑j : Int) + (1 : Int))).toNat es).any (isF (hh, f, t) now)), AV.int IntKind.i64 (↑es.length : Int)] [] else none else none else none else k (Ex.exit (0 : Nat)) [AV.str hh, AV.str f, AV.str t, AV.int IntKind.i64 now, AV.int IntKind.i64 w, AV.slv (Sh.agg [Sh.str, Sh.str, Sh.str, Sh.int IntKind.i64, Sh.int IntKind.i64, Sh.bool]) es, AV.bool z, AV.int IntKind.i64 (↑j : Int)] []) (by kernel_rfl) ?_
    rw [← hk]
    by_cases hlt : j < es.length
    · obtain ⟨e1, e2, e3, e4, e5⟩ := cnt_facts hlt hs
      rw [drop_getD hlt, List.any_cons]
      simp only [e1, e2, e3, e4, e5, cond_true, Int.toNat_natCast]
      unfold isF k3eq kOf
      dsimp only
      cases z
      · cases hOf (es.getD j .unk) == hh <;> cases fOf (es.getD j .unk) == f <;> cases tOf (es.getD j .unk) == t <;> cases aOf (es.getD j .unk) == now <;> rfl
      · rfl
    · obtain rfl : j = es.length := by omega
      rw [decide_eq_false (by omega), List.drop_length]
      show k (.exit 0) [.str hh, .str f, .str t, .int .i64 now, .int .i64 w, .slv sE es, .bool z, .int .i64 es.length] [] = k (.exit 0) [.str hh, .str f, .str t, .int .i64 now, .int .i64 w, .slv sE es, .bool (z || false), .int .i64 es.length] []
      rw [Bool.or_false]
  · cases h
theorem any_fresh {A : List AV} (G : Gd A) {x : K3} {e : AV} (hk : lk kOf x A = some e) (now : Int) : A.any (isF x now) = (aOf e == now) := by
  obtain ⟨m1, m2⟩ := look_mem hk
  cases h : aOf e == now
  · rw [List.any_eq_false]
    intro y hy hc
    unfold isF at hc
    simp only [Bool.and_eq_true] at hc
    have := srt_inj k3O G.srt hy m1 ((k3eq_iff.1 hc.1).trans m2.symm)
    rw [this, h] at hc
    cases hc.2
  · rw [List.any_eq_true]
    exact ⟨e, m1, by unfold isF; rw [k3eq_iff.2 m2, h]; rfl⟩
theorem second4 {A : List AV} (G : Gd A) {x : K3} {now w : Int} {e : AV} (h1 : nm3 x.1 x.2.1 x.2.2 = true) (h2 : tmB now = true) (hw : inR w 0 20000 = true) (hk : lk kOf x A = some e) (hl : lOf e = now) (hn : knOf e = false) :
    (bif cnt (A.length : Int) 0 A.length then bif small A.length && A.all (hasSh sE) then bif !(false || (List.drop 0 A).any (isF x now)) then bif (tryR A x (IntKind.i64.wrap (now + w))).2.2.1 == 0 then some (AV.bool true) else bif (tryR A x (IntKind.i64.wrap (now + w))).2.2.1 == 3 then some (AV.bool true) else bif (tryR A x (IntKind.i64.wrap (now + w))).2.2.1 == 2 then some (AV.bool true) else some (AV.bool false)
      else bif (tryR A x (IntKind.i64.wrap (now + w))).2.2.1 != 0 then bif (tryR A x (IntKind.i64.wrap (now + w))).2.2.1 == 0 then some (AV.bool true) else bif (tryR A x (IntKind.i64.wrap (now + w))).2.2.1 == 3 then some (AV.bool true) else bif (tryR A x (IntKind.i64.wrap (now + w))).2.2.1 == 2 then some (AV.bool true) else some (AV.bool false)
      else bif (tryR A x (IntKind.i64.wrap (now + w))).2.1 == inR w 300 14400 then some (AV.bool true) else some (AV.bool false) else none else none) = some (AV.bool true) := by
  obtain ⟨w0, w1⟩ := inR_spec hw
  rw [tm_next h2 w0 (by omega), cnt_zero G.small, G.small, all_can G.can, List.drop_zero, any_fresh G hk]
  cases ht : tmB (now + w)
  · rw [try_late G h1 ht]
    cases aOf e == now <;> rfl
  · obtain ⟨s1, s2⟩ := try_some G h1 ht hk (by omega)
    cases hf : aOf e == now
    · cases ho : oldE (now + w) e
      · rw [s1 ho]; rfl
      · rw [s2 ho]
        obtain ⟨_, c | c⟩ := newR_code (es := A) (x := x) (now := now + w) <;> rw [c] <;> rfl
    · have ha : aOf e = now := by simpa using hf
      have hold : oldE (now + w) e = decide (w > 14400) := by
        unfold oldE oldP
        rw [hn, ha, cond_false, wrap_mid (now + w - now) (by omega) (by omega)]
        exact decide_eq_decide.2 (by omega)
      cases ho : oldE (now + w) e
      · rw [s1 ho]
        rw [hold] at ho
        have hb : knOf (upE e (now + w)) = inR w 300 14400 := by
          show (knOf e || decide (now + w - aOf e ≥ 300)) = _
          rw [hn, ha, Bool.false_or]
          unfold inR
          rw [decide_eq_true (by have := of_decide_eq_false ho; omega : w ≤ 14400), Bool.and_true]
          exact decide_eq_decide.2 (by omega)
        rw [hb]
        simp
      · rw [s2 ho]
        rw [hold] at ho
        obtain ⟨b, c | c⟩ := newR_code (es := A) (x := x) (now := now + w)
        · rw [b, c]
          unfold inR
          rw [decide_eq_false (by have := of_decide_eq_true ho; omega : ¬ w ≤ 14400), Bool.and_false]
          rfl
        · rw [c]; rfl
theorem law4 (es : List AV) (hh f t : List UInt8) (now w : Int) (hs : small es.length = true) (hcan : ∀ e ∈ es, hasSh sE e = true) : evF Try.prog GL [(6, l4)] Try.f4 AV [.slv sE es, .str hh, .str f, .str t, .int .i64 now, .int .i64 w] some = some (.bool true) := by
  refine Eq.trans (b := bif small es.length && es.all (hasSh sE) then bif (tryR es (hh, f, t) now).snd.snd.fst != (0 : Int) then some (AV.bool true) else bif (tryR es (hh, f, t) now).snd.fst then some (AV.bool true) else bif !inR w (0 : Int) (20000 : Int) then some (AV.bool true) else bif cnt (↑(tryR es (hh, f, t) now).fst.length : Int) (0 : Int) (tryR es (hh, f, t) now).fst.length then bif small (tryR es (hh, f, t) now).fst.length && (tryR es (hh, f, t) now).fst.all (hasSh sE) then bif !(false || (List.drop (0 : Nat) (tryR es (hh, f, t) now).fst).any (isF (hh, f, t) now)) then bif (tryR (tryR es (hh, f, t) now).fst (hh, f, t) (IntKind.i64.wrap (now + w))).snd.snd.fst == (0 : Int) then some (AV.bool true) else bif (tryR (tryR es (hh, f, t) now).fst (hh, f, t) (IntKind.i64.wrap (now + w))).snd.snd.fst == (3 : Int) then some (AV.bool true) else bif (tryR (tryR es (hh, f, t) now).fst (hh, f, t) (IntKind.i64.wrap (now + w))).snd.snd.fst == (2 : Int) then some (AV.bool true) else some (AV.bool false) else bif (tryR (tryR es (hh, f, t) now).fst (hh, f, t) (IntKind.i64.wrap (now + w))).snd.snd.fst != (0 : Int) then bif (tryR (tryR es (hh, f, t) now).fst (hh, f, t) (IntKind.i64.wrap (now + w))).snd.snd.fst == (0 : Int) then some (AV.bool true) else bif (tryR (tryR es (hh, f, t) now).fst (hh, f, t) (IntKind.i64.wrap (now + w))).snd.snd.fst == (3 : Int) then some (AV.bool true) else bif (tryR (tryR es (hh, f, t) now).fst (hh, f, t) (IntKind.i64.wrap (now + w))).snd.snd.fst == (2 : Int) then some (AV.bool true) else some (AV.bool false) else bif (tryR (tryR es (hh, f, t) now).fst (hh, f, t) (IntKind.i64.wrap (now + w))).snd.fst == inR w (300 : Int) (14400 : Int) then some (AV.bool true) else some (AV.bool false) else none else none else none) (by kernel_rfl) ?_
  rw [hs, all_can hcan]
  rcases try_cases hcan (hh, f, t) now with ⟨h, _⟩ | ⟨G, h1, h2, ⟨e, k1, k2, k3, k4⟩ | ⟨k1, k2, k3⟩⟩
  · rw [h]; rfl
  · rw [k4]
    cases hb : knOf (upE e now)
    · cases hw : inR w 0 20000
      · rfl
      · obtain ⟨G', hlk⟩ := after_keep G h2 k1 k2
        exact second4 G' h1 h2 hw (e := upE e now) (by rw [hlk, if_pos rfl]) rfl hb
    · rfl
  · rw [k3]
    cases hw : inR w 0 20000
    · rfl
    · obtain ⟨G', hlk⟩ := after_new G h1 h2 k2 k1
      exact second4 G' h1 h2 hw (e := newE (hh, f, t) now) (by rw [hlk, if_pos rfl]) rfl rfl
theorem ok4 : SumOK Try.prog 4 (evF Try.prog GL [(6, l4)] Try.f4) := sum1 (b := b4) (l := l4) gl Try.func4 (by kernel_rfl) (by kernel_rfl) loop4 fun _ _ _ _ h => h

theorem spec4 (H : Type) : ∀ ds : List (DataW H), ds.length = Try.f4.params.size → Rows.greylistAcceptsInTimeSpec.fn H ds = { results := [.lit (.bool true)], args := ds }
  | [_, _, _, _, _, _], _ => rfl

set_option maxRecDepth 100000 in
theorem lifted4 (os : Os) (started : os.Started) (H : Type) (enc : TypeId × Value → H) :
    ReturnsInHanded {} Try.checked os 4 .any (Rows.greylistAcceptsInTimeSpec.pre6 enc Try.prog Try.f4 Rows.greylistAcceptsInTimeRow.domain false) (Rows.greylistAcceptsInTimeSpec.post enc Try.prog Try.f4 false true false false) := by
  refine returnsInHanded_of_change (C := Try.checked) own started (by kernel_rfl) Try.func4
    (ChangeSpec.witness6 (enc := enc) (C := Try.checked) false ⟨#[], #[.slice none 0 0, .string ⟨#[]⟩, .string ⟨#[]⟩, .string ⟨#[]⟩, .int .i64 0, .int .i64 0], []⟩ 8 (by kernel_rfl) (by kernel_rfl) (by kernel_rfl) (by kernel_rfl)) ?_
  intro W base args ds gs before hval hW _ _
  refine contract_of (bk H) (n := 12) (tb := 4) (F := evF Try.prog GL [(6, l4)] Try.f4) (by kernel_rfl) (by kernel_rfl) (by kernel_rfl) rfl (by kernel_rfl) (by kernel_rfl) (spec4 H) (ok4) (fun avs hg => ?_) hval hW
  have hh : hasAll [.slice sE, .str, .str, .str, .int .i64, .int .i64] avs = true := hg.has
  obtain ⟨v0, cs, rfl, h0, hh⟩ := hasAll_cons hh
  obtain ⟨v1, cs, rfl, h1, hh⟩ := hasAll_cons hh
  obtain ⟨v2, cs, rfl, h2, hh⟩ := hasAll_cons hh
  obtain ⟨v3, cs, rfl, h3, hh⟩ := hasAll_cons hh
  obtain ⟨v4, cs, rfl, h4, hh⟩ := hasAll_cons hh
  obtain ⟨v5, cs, rfl, h5, hh⟩ := hasAll_cons hh
  obtain rfl := hasAll_nil hh
  obtain ⟨es, rfl, hs, hcan⟩ := open_grey h0 (hg.fit _ (by simp))
  obtain ⟨ho, rfl⟩ := has_str h1
  obtain ⟨f, rfl⟩ := has_str h2
  obtain ⟨t, rfl⟩ := has_str h3
  obtain ⟨now, rfl⟩ := has_int h4
  obtain ⟨w, rfl⟩ := has_int h5
  exact law4 es ho f t now w hs hcan

theorem accepts_in_time : Rows.GreylistAcceptsInTimeSaid :=
  OpenClaim.holds_of_wide 4 Try.f4 rfl rfl rfl rfl rfl rfl rfl ⟨rfl, rfl, rfl, rfl, rfl⟩ rfl rfl rfl rfl rfl (by kernel_rfl) Try.func4 (by kernel_rfl)
    (of_decide_eq_true (by kernel_rfl)) (by unfold Func.isWrapper; first | (rw [if_pos (by decide +kernel)]; kernel_rfl) | (rw [if_neg (by decide +kernel)]; exact ⟨rfl, rfl⟩))
    (fun os started H enc _ => lifted4 os started H enc)

end Go.Proofs.Ytbkokbmodpkamaa
