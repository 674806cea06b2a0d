/-
  strings.Split, bytes.SplitSeq: functions that hand back new memory.
-/
import Derived.Test.YthdhfmdhjanoaaaGreatDoorEvY
import Derived.Shelf.Strings.Builder1
import Derived.Shelf.Strings.Builder2
import Derived.Shelf.Strings.OnBuilder
import Derived.Shelf.Small.Utf8
import Derived.Shelf.Small.Strs
import Derived.Shelf.Small.Wraps
import Derived.Shelf.Strings.BuilderF
import Derived.Shelf.Strings.BuilderK
import Derived.Shelf.Utf8.RuneCount
import Derived.Shelf.Strings.Builder2Cap
import Derived.Shelf.Strconv.Itoa0
import Derived.Shelf.Strconv.Itoa1
import Derived.Shelf.LaysM
import Derived.Shelf.Strconv.Itoa2
import Derived.Shelf.Strconv.Itoa3
import Derived.Shelf.Strings.Search1
import Derived.Shelf.Strings.Search2
import Derived.Shelf.Strings.Search3
import Derived.Shelf.Strings.Count
import Derived.Shelf.Strings.Shaped
import Derived.Shelf.Strings.Prefix
import Derived.Shelf.Strings.Split
import Derived.Shelf.Strings.SplitShaped
import Derived.Shelf.Unicode.Decode
import Derived.Shelf.Strings.Runes
import Derived.Shelf.Strings.RuneCount
import Derived.Shelf.Strings.IndexAny
import Derived.Shelf.Strings.AsciiSet
import Derived.Shelf.Strings.IndexAnyAll
import Derived.Shelf.Strings.Explode
import Derived.Shelf.Bits.Mul64
import Derived.Shelf.Strings.Repeat
import Derived.Shelf.Unicode.DecodeSlow
import Derived.Shelf.Unicode.DecodeAny
import Derived.Shelf.Bytes.SlIndexSmall
import Derived.Shelf.Bytes.SlIndexAt
import Derived.Shelf.Bytes.SlSearch0
import Derived.Shelf.Bytes.SlSearch1
import Derived.Shelf.Bytes.SlSearch2
import Derived.Shelf.Bytes.SlIndexWhole
import Derived.Shelf.Bytes.Small
import Derived.Shelf.Bytes.IndexByte
/-
  A function that hands back a new array: one of its elements may be held apart.
-/
namespace Go.Ev

theorem etas_rel' {w : World} {S : Nat → Prop} {β : Bet} {s : Sh} {x : AV} {us : List Value} (h : hasSh s x = true) (hv : VRels w S β x.cells us) : VRels w S β (etaCells s x) us := etas_rel _ _ _ (hasSh_hass s _ h) hv
/-- One element of an array is held apart. -/
theorem RowRel.focus {w : World} {S B : Nat → Prop} {β : Bet} {id : Nat} {o : Option Nat} {imm : Bool} {s : Sh} {e : TypeId} {pre post cs : List AV} {x : AV} {csp : Option (List AV)} (h : RowRel w S B β id o (.arr imm s e (pre ++ x :: post) csp))
    (hcs : cs = x.cells ∨ cs = etaCells s x) : RowRel w S B β id o (.foc imm s e pre cs post) := by
  obtain ⟨hpos, v, sp, xs, hsh, _, hb, h1, hvs, hor⟩ := h
  rcases hor with ⟨he, _⟩ | ⟨g, ho, rfl, hB, hh, hm, hi, hj⟩
  · simp at he
  · have hpre : ∀ y ∈ pre, hasSh s y = true := fun y hy => hsh y (by simp [hy])
    have hx : hasSh s x = true := hsh x (by simp)
    have hpost : ∀ y ∈ post ++ sp, hasSh s y = true := fun y hy => hsh y (by
      rcases List.mem_append.1 hy with h | h <;> simp [h])
    have hw := hasSh_width s x hx
    have hf : flat (pre ++ x :: post ++ sp) = flat pre ++ (x.cells ++ flat (post ++ sp)) := by
      simp only [flat, List.flatMap_append, List.flatMap_cons, List.append_assoc]
    rw [hf] at hvs
    have lp := flat_length pre hpre
    have v1 : VRels w S nob (flat pre) (xs.take (flat pre).length) := by
      have := hvs.take (flat pre).length
      rwa [List.take_append_of_le_length (Nat.le_refl _), List.take_of_length_le (Nat.le_refl _)] at this
    have v2 : VRels w S nob (x.cells ++ flat (post ++ sp)) (xs.drop (flat pre).length) := by
      have := hvs.drop (flat pre).length
      rwa [List.drop_left] at this
    have v3 : VRels w S nob x.cells ((xs.drop (flat pre).length).take x.cells.length) := by
      have := v2.take x.cells.length
      rwa [List.take_append_of_le_length (Nat.le_refl _), List.take_of_length_le (Nat.le_refl _)] at this
    have v4 : VRels w S nob (flat (post ++ sp)) ((xs.drop (flat pre).length).drop x.cells.length) := by
      have := v2.drop x.cells.length
      rwa [List.drop_left] at this
    have hsplit : xs.take (flat pre).length ++ ((xs.drop (flat pre).length).take x.cells.length ++ (xs.drop (flat pre).length).drop x.cells.length) = xs := by
      rw [List.take_append_drop, List.take_append_drop]
    have v3' : VRels w S β cs ((xs.drop (flat pre).length).take x.cells.length) := by
      have m : VRels w S β x.cells ((xs.drop (flat pre).length).take x.cells.length) := v3.mono (fun _ h => h) (fun _ _ => rfl) (fun _ _ h => by cases h)
      rcases hcs with rfl | rfl
      · exact m
      · exact etas_rel' hx m
    have hl : (pre ++ x :: post).length = pre.length + (post.length + 1) := by simp
    rw [hl] at hb hm
    refine ⟨hpos, ?_, g, sp, _, _, _, hpre, hpost, ho, hb, ?_, v1, v3', v4, hB, by rw [hsplit]; exact hh, hm, hi, hj⟩
    · rw [← v3'.1, v3.1]; exact hw
    · rw [hsplit]; exact h1
theorem Goes.mono {P : Program} {f : FuncId} {args : Array Value} {w : World} {R R' : Ending → World → Prop} (h : Goes P f args w R) (hR : ∀ e w', R e w' → R' e w') : Goes P f args w R' := by
  rcases h with ⟨hb, h⟩ | ⟨hb, u, w', h1, h2⟩
  · exact .inl ⟨hb, h.mono hR⟩
  · exact .inr ⟨hb, u, w', h1, hR _ _ h2⟩
theorem XOK.focus {P : Program} {f : FuncId} {p p' : List AV → List Row → Tr XOut} (h : XOK P f (ofX p))
    (hp : ∀ avs rows, p' avs rows = .no ∨ (∃ t, p' avs rows = .gd false t) ∨ ∃ (c c' : Bool) (v : AV) (pr : List (Option Row)) (s : Sh) (e : TypeId) (pre : List AV) (x : AV) (post : List AV) (csp : Option (List AV)) (rest : List Row) (cs : List AV),
      p avs rows = .gd c (.leaf (v, pr, .arr false s e (pre ++ x :: post) csp :: rest)) ∧ p' avs rows = .gd c' (.leaf (v, pr, .foc false s e pre cs post :: rest)) ∧ (c' = true → c = true) ∧ (cs = x.cells ∨ cs = etaCells s x)) : XOK P f (ofX p') ∧ XNat (ofX p') := by
  refine ⟨fun ρ w S B β og avs rows args k r hh hB hβ hv hF => ?_, xnat_ofX _⟩
  rcases hp avs rows with e | ⟨t, e⟩ | ⟨c, c', v, pr, s, e, pre, x, post, csp, rest, cs, e1, e2, hc, hcs⟩
  · have hF' : (p' avs rows).run (fun q => k q.1 q.2.1 q.2.2) = some r := hF
    rw [e] at hF'
    cases hF'
  · have hF' : (p' avs rows).run (fun q => k q.1 q.2.1 q.2.2) = some r := hF
    rw [e] at hF'
    cases hF'
  · have hF' : (p' avs rows).run (fun q => k q.1 q.2.1 q.2.2) = some r := hF
    rw [e2] at hF'
    obtain ⟨hc', hk⟩ := gd_some hF'
    have h0 := h (AV × List (Option Row) × List Row) w S B β og avs rows args (fun v p n => some (v, p, n)) (v, pr, .arr false s e (pre ++ x :: post) csp :: rest) hh hB hβ hv (by
      show (p avs rows).run (fun q => some (q.1, q.2.1, q.2.2)) = _
      rw [e1, hc hc']
      rfl)
    refine Goes.mono h0 fun e' w' ⟨u, v', prow, nrow, S', β', og', he, hkk, ha⟩ => ?_
    simp only [Option.some.injEq, Prod.mk.injEq] at hkk
    obtain ⟨rfl, rfl, rfl⟩ := hkk
    refine ⟨u, _, _, _, S', β', og', he, hk, ⟨ha.kept, ha.sub, ha.sin, ha.val, ha.prow, fun j r hj => ?_, ha.inj, ha.lt, ha.one, ha.Slt, ha.bet⟩⟩
    cases j with
    | zero =>
      simp only [List.getElem?_cons_zero, Option.some.injEq] at hj
      subst hj
      exact (ha.nrow 0 _ rfl).focus hcs
    | succ j => exact ha.nrow (j + 1) r (by simpa using hj)
/-- What is known of a function may hang on its arguments. -/
theorem SumOK.point {P : Program} {f : FuncId} {F : Summ} (h : ∀ avs, ∃ F', SumOK P f F' ∧ ∀ (ρ : Type) (k : AV → Option ρ) (r : ρ), F ρ avs k = some r → F' ρ avs k = some r) : SumOK P f F := fun ρ w S avs args k r hS hv hF => by
  obtain ⟨F', h1, h2⟩ := h avs
  exact h1 ρ w S avs args k r hS hv (h2 ρ k r hF)
theorem XOK.point {P : Program} {f : FuncId} {F : SummX} (h : ∀ avs rows, ∃ F', XOK P f F' ∧ ∀ (ρ : Type) (k : AV → List (Option Row) → List Row → Option ρ) (r : ρ), F ρ avs rows k = some r → F' ρ avs rows k = some r) : XOK P f F := fun ρ w S B β og avs rows args k r hh hB hβ hv hF => by
  obtain ⟨F', h1, h2⟩ := h avs rows
  exact h1 ρ w S B β og avs rows args k r hh hB hβ hv (h2 ρ k r hF)
end Go.Ev


namespace Go.Proofs.YthdhfmdhjanoaaaGreatDoor
open Go.Ev
theorem byte_of {v : AV} (h : hasSh (.int .u8) v = true) : ∃ m, v = .int .u8 m := by
  cases v <;> simp [hasSh, has1] at h
  subst h
  exact ⟨_, rfl⟩
theorem u8_small (n : Int) (h : 0 ≤ n) (h' : n ≤ 255) : IntKind.u8.wrap n = n := by
  rw [IntKind.wrap_u8]; omega
noncomputable def G0 : Env := { pure := [] }
theorem g0 : GOK Tryz.prog G0 := GOK.empty
def inR (n a b : Int) : Bool := decide (a ≤ n) && decide (n ≤ b)
theorem inR_spec {n a b : Int} (h : inR n a b = true) : a ≤ n ∧ n ≤ b := by simpa [inR] using h
theorem inR_of {n a b : Int} (h : a ≤ n) (h' : n ≤ b) : inR n a b = true := by simp [inR, h, h']
def F39 : List AV → Tr AV
  | [.int .i64 n, .int .i64 a, .int .i64 b] => .leaf (.bool (inR n a b))
  | _ => .no
theorem ok39 : SumOK Tryz.prog 39 (ofT F39) ∧ SNat (ofT F39) := by
  refine fn0 g0 Tryz.func39 (by kernel_rfl) fun ρ avs k r h => ?_
  unfold F39 at h
  split at h
  · rename_i n a b
    have hk := h
    refine Eq.trans (b := bif decide (a ≤ n) then k (.bool (decide (n ≤ b))) else k (.bool false)) (by kernel_rfl) (Eq.trans ?_ hk)
    show _ = k (.bool (decide (a ≤ n) && decide (n ≤ b)))
    cases decide (a ≤ n) <;> rfl
  · cases h
def ltI (n : Int) : Bool := inR n 97 122 || (inR n 65 90 || inR n 48 57)
def F92 : List AV → Tr AV
  | [.int .u8 n] => .leaf (.bool (ltI n))
  | _ => .no
theorem ok92 : SumOK Tryz.prog 92 (ofT F92) ∧ SNat (ofT F92) := by
  refine fn0 g0 Tryz.func92 (by kernel_rfl) fun ρ avs k r h => ?_
  unfold F92 at h
  split at h
  · rename_i n
    have hk := h
    refine Eq.trans (b := bif decide (n ≥ (97 : Int)) then bif decide (n ≤ (122 : Int)) then k (AV.bool true) else bif decide (n ≥ (65 : Int)) then bif decide (n ≤ (90 : Int)) then k (AV.bool true) else bif decide (n ≥ (48 : Int)) then k (AV.bool (decide (n ≤ (57 : Int)))) else k (AV.bool false) else bif decide (n ≥ (48 : Int)) then k (AV.bool (decide (n ≤ (57 : Int)))) else k (AV.bool false) else bif decide (n ≥ (65 : Int)) then bif decide (n ≤ (90 : Int)) then k (AV.bool true) else bif decide (n ≥ (48 : Int)) then k (AV.bool (decide (n ≤ (57 : Int)))) else k (AV.bool false) else bif decide (n ≥ (48 : Int)) then k (AV.bool (decide (n ≤ (57 : Int)))) else k (AV.bool false)) (by kernel_rfl) ?_
    rw [← hk]
    show _ = k (.bool ((decide (97 ≤ n) && decide (n ≤ 122)) || ((decide (65 ≤ n) && decide (n ≤ 90)) || (decide (48 ≤ n) && decide (n ≤ 57)))))
    cases decide (n ≥ 97) <;> cases decide (n ≤ 122) <;> cases decide (n ≥ 65) <;> cases decide (n ≤ 90) <;> cases decide (n ≥ 48) <;> cases decide (n ≤ 57) <;> rfl
  · cases h
noncomputable def G91 : Env := { pure := [(92, ofT F92)] }
theorem g91 : GOK Tryz.prog G91 := GOK.also g0 ok92
def nmI (n : Int) : Bool := ltI n || (n == 45 || (n == 95 || n == 46))
def F91 : List AV → Tr AV
  | [.int .u8 n] => .leaf (.bool (nmI n))
  | _ => .no
theorem ok91 : SumOK Tryz.prog 91 (ofT F91) ∧ SNat (ofT F91) := by
  refine fn0 g91 Tryz.func91 (by kernel_rfl) fun ρ avs k r h => ?_
  unfold F91 at h
  split at h
  · rename_i n
    have hk := h
    refine Eq.trans (b := bif ltI n then k (AV.bool true) else bif n == (45 : Int) then k (AV.bool true) else bif n == (95 : Int) then k (AV.bool true) else k (AV.bool (n == (46 : Int)))) (by kernel_rfl) ?_
    rw [← hk]
    show _ = k (.bool (ltI n || (n == 45 || (n == 95 || n == 46))))
    cases ltI n <;> cases n == 45 <;> cases n == 95 <;> cases n == 46 <;> rfl
  · cases h
noncomputable def G87 : Env := { pure := [(91, ofT F91)] }
theorem g87 : GOK Tryz.prog G87 := GOK.also g0 ok91
noncomputable def b87 : Code := ((Tryz.f87.body.map loopsOf).getD []).headD .skip
def atI (s : List UInt8) (i : Nat) : Int := ((s.getD i 0).toNat : Nat)
def L87 : List AV → List (Option Row) → Tr LOut
  | [.str s, .fn 91 [], .bool b, .int .i64 n, .int .i64 i], [] =>
    .gd (cnt n i s.length) (sT (fun i => !nmI (atI s i)) s.length (fun q => .leaf (.ret, [.str s, .fn 91 [], .bool false, .int .i64 n, .int .i64 (q : Nat)], [])) (.leaf (.exit 0, [.str s, .fn 91 [], .bool b, .int .i64 n, .int .i64 s.length], [])) i.toNat)
  | _, _ => .no
def l87 : Ev.Loop := ⟨{ len := 18, slots := [0, 1, 4, 7, 8] }, ofL L87⟩
def μ87 (vs : List AV) (_ : List (Option Row)) : Nat := match vs with
  | [_, _, _, .int _ n, .int _ i] => (n - i).toNat
  | _ => 0
theorem loop87 : LoopOK Tryz.prog G87 [(2, l87)] b87 l87 := by
  refine loopT g87.natOK rfl (KOK.nil (by kernel_rfl)) μ87 (fun ρ vs rs k r h => ?_)
  unfold L87 at h
  split at h
  · rename_i s b n i
    obtain ⟨hc, hk⟩ := gd_some h
    obtain ⟨rfl, hs, j, rfl, hj⟩ := cnt_spec hc
    rw [Int.toNat_natCast] at hk
    refine Eq.trans (b := bif decide ((↑j : Int) < (↑s.length : Int)) then bif inb (↑j : Int) s.length then bif !nmI (↑(s.getD j (0 : UInt8)).toNat : Int) then k Ex.ret [AV.str s, AV.fn (91 : Nat) [], AV.bool false, AV.int IntKind.i64 (↑s.length : Int), AV.int IntKind.i64 (↑j : Int)] [] else bif decide (((↑s.length : Int) - IntKind.i64.wrap ((↑j : Int) + (1 : Int))).toNat < ((↑s.length : Int) - (↑j : Int)).toNat) then bif cnt (↑s.length : Int) (IntKind.i64.wrap ((↑j : Int) + (1 : Int))) s.length then bif (findN (fun i => !nmI (atI s i)) s.length (IntKind.i64.wrap ((↑j : Int) + (1 : Int))).toNat).isSome then k Ex.ret [AV.str s, AV.fn (91 : Nat) [], AV.bool false, AV.int IntKind.i64 (↑s.length : Int), AV.int IntKind.i64 (↑((findN (fun i => !nmI (atI s i)) s.length (IntKind.i64.wrap ((↑j : Int) + (1 : Int))).toNat).getD (0 : Nat)) : Int)] [] else k (Ex.exit (0 : Nat)) [AV.str s, AV.fn (91 : Nat) [], AV.bool b, AV.int IntKind.i64 (↑s.length : Int), AV.int IntKind.i64 (↑s.length : Int)] [] else none else none else none else k (Ex.exit (0 : Nat)) [AV.str s, AV.fn (91 : Nat) [], AV.bool b, AV.int IntKind.i64 (↑s.length : Int), AV.int IntKind.i64 (↑j : Int)] []) (by kernel_rfl) ?_
    rw [← hk]
    by_cases hlt : j < s.length
    · obtain ⟨e1, e2, e3, e4, e5⟩ := cnt_facts hlt hs
      rw [sT_step _ _ _ _ _ hlt]
      simp only [e1, e2, e3, e4, e5, cond_true, Int.toNat_natCast]
      rfl
    · obtain rfl : j = s.length := by omega
      rw [decide_eq_false (by omega), sT_end]
      rfl
  · cases h
def allN (p : Int → Bool) (s : List UInt8) : Bool := !(findN (fun i => !p (atI s i)) s.length 0).isSome
def F87 : List AV → Tr AV
  | [.str s, .fn 91 []] => .gd (small s.length) (.leaf (.bool (allN nmI s)))
  | _ => .no
theorem ok87 : SumOK Tryz.prog 87 (ofT F87) ∧ SNat (ofT F87) := by
  refine fn1 (K := [(2, l87)]) (b := b87) (l := l87) g87 Tryz.func87 (by kernel_rfl) (by kernel_rfl) loop87 fun ρ avs k r h => ?_
  unfold F87 at h
  split at h
  · rename_i s
    obtain ⟨hc, hk⟩ := gd_some h
    refine Eq.trans (b := bif cnt (↑s.length : Int) (0 : Int) s.length then bif (findN (fun i => !nmI (atI s i)) s.length (0 : Nat)).isSome then k (AV.bool false) else k (AV.bool true) else none) (by kernel_rfl) ?_
    rw [← hk, cnt_zero hc]
    show _ = k (.bool (allN nmI s))
    unfold allN
    cases (findN (fun i => !nmI (atI s i)) s.length 0).isSome <;> rfl
  · cases h
noncomputable def G71 : Env := { pure := [(87, ofT F87)] }
theorem g71 : GOK Tryz.prog G71 := GOK.also g0 ok87
def naB (s : List UInt8) : Bool := !(s == []) && (decide ((s.length : Int) ≤ 60) && allN nmI s)
def F71 : List AV → Tr AV
  | [.str s] => .gd (small s.length) (.leaf (.bool (naB s)))
  | _ => .no
theorem ok71 : SumOK Tryz.prog 71 (ofT F71) ∧ SNat (ofT F71) := by
  refine fn0 g71 Tryz.func71 (by kernel_rfl) fun ρ avs k r h => ?_
  unfold F71 at h
  split at h
  · rename_i s
    obtain ⟨hc, hk⟩ := gd_some h
    refine Eq.trans (b := bif !s == ([] : List UInt8) then bif decide ((↑s.length : Int) ≤ (60 : Int)) then bif small s.length then k (AV.bool (allN nmI s)) else none else k (AV.bool false) else k (AV.bool false)) (by kernel_rfl) ?_
    rw [← hk, hc]
    show _ = k (.bool (!(s == []) && (decide ((s.length : Int) ≤ 60) && allN nmI s)))
    cases s == [] <;> cases decide ((s.length : Int) ≤ 60) <;> rfl
  · cases h
def lowI (n : Int) : Int := bif inR n 65 90 then n + 32 else n
def lowE (e : AV) : AV := .int .u8 (lowI e.toInt)
noncomputable def GC : Env := { pure := [], conv := true }
theorem gc : GOK Tryz.prog GC := GOK.flags g0
noncomputable def b72 : Code := ((Tryz.f72.body.map loopsOf).getD []).headD .skip
def bE (e : AV) : Bool := hasSh (.int .u8) e && inR e.toInt 0 255
def L72 : List AV → List (Option Row) → Tr LOut
  | [.own 65, .own 65, .int .i64 n, .int .i64 i], [some (.arr false (.int .u8) e es none)] =>
    .gd (cnt n i es.length && es.all bE) (.leaf (.exit 0, [.own 65, .own 65, .int .i64 n, .int .i64 es.length], [some (.arr false (.int .u8) e (es.take i.toNat ++ (es.drop i.toNat).map lowE) none)]))
  | _, _ => .no
def l72 : Ev.Loop := ⟨{ len := 30, slots := [3, 8, 9, 10], rows := [65] }, ofL L72⟩
def μ72 (vs : List AV) (_ : List (Option Row)) : Nat := match vs with
  | [_, _, .int _ n, .int _ i] => (n - i).toNat
  | _ => 0
theorem loop72 : LoopOK Tryz.prog GC [(3, l72)] b72 l72 := by
  refine loopT gc.natOK rfl (KOK.nil (by kernel_rfl)) μ72 (fun ρ vs rs k r h => ?_)
  unfold L72 at h
  split at h
  · rename_i n i e es
    obtain ⟨hc, hk⟩ := gd_some h
    simp only [Bool.and_eq_true] at hc
    obtain ⟨hc, hall⟩ := hc
    obtain ⟨rfl, hs, j, rfl, hj⟩ := cnt_spec hc
    rw [Int.toNat_natCast] at hk
    refine Eq.trans (b := bif decide ((↑j : Int) < (↑es.length : Int)) then bif inb (↑j : Int) es.length then bif decide (j < es.length) then bif decide (((es.getD j AV.unk).cells.headD AV.unk).toInt ≥ (65 : Int)) then bif decide (((es.getD j AV.unk).cells.headD AV.unk).toInt ≤ (90 : Int)) then bif inb (↑j : Int) es.length then bif decide (j < es.length) then bif decide (((↑es.length : Int) - IntKind.i64.wrap ((↑j : Int) + (1 : Int))).toNat < ((↑es.length : Int) - (↑j : Int)).toNat) then bif cnt (↑es.length : Int) (IntKind.i64.wrap ((↑j : Int) + (1 : Int))) (es.set j (mkAV (Sh.int IntKind.u8) [AV.int IntKind.u8 (IntKind.u8.wrap (IntKind.u8.wrap (((es.getD j AV.unk).cells.headD AV.unk).toInt + (97 : Int)) - (65 : Int)))])).length && (es.set j (mkAV (Sh.int IntKind.u8) [AV.int IntKind.u8 (IntKind.u8.wrap (IntKind.u8.wrap (((es.getD j AV.unk).cells.headD AV.unk).toInt + (97 : Int)) - (65 : Int)))])).all bE then k (Ex.exit (0 : Nat)) [AV.own (65 : Nat), AV.own (65 : Nat), AV.int IntKind.i64 (↑es.length : Int), AV.int IntKind.i64 (↑(es.set j (mkAV (Sh.int IntKind.u8) [AV.int IntKind.u8 (IntKind.u8.wrap (IntKind.u8.wrap (((es.getD j AV.unk).cells.headD AV.unk).toInt + (97 : Int)) - (65 : Int)))])).length : Int)] [some (Row.arr false (Sh.int IntKind.u8) e (List.take (IntKind.i64.wrap ((↑j : Int) + (1 : Int))).toNat (es.set j (mkAV (Sh.int IntKind.u8) [AV.int IntKind.u8 (IntKind.u8.wrap (IntKind.u8.wrap (((es.getD j AV.unk).cells.headD AV.unk).toInt + (97 : Int)) - (65 : Int)))])) ++ List.map lowE (List.drop (IntKind.i64.wrap ((↑j : Int) + (1 : Int))).toNat (es.set j (mkAV (Sh.int IntKind.u8) [AV.int IntKind.u8 (IntKind.u8.wrap (IntKind.u8.wrap (((es.getD j AV.unk).cells.headD AV.unk).toInt + (97 : Int)) - (65 : Int)))])))) none)] else none else none else none else none else bif decide (((↑es.length : Int) - IntKind.i64.wrap ((↑j : Int) + (1 : Int))).toNat < ((↑es.length : Int) - (↑j : Int)).toNat) then bif cnt (↑es.length : Int) (IntKind.i64.wrap ((↑j : Int) + (1 : Int))) es.length && es.all bE then k (Ex.exit (0 : Nat)) [AV.own (65 : Nat), AV.own (65 : Nat), AV.int IntKind.i64 (↑es.length : Int), AV.int IntKind.i64 (↑es.length : Int)] [some (Row.arr false (Sh.int IntKind.u8) e (List.take (IntKind.i64.wrap ((↑j : Int) + (1 : Int))).toNat es ++ List.map lowE (List.drop (IntKind.i64.wrap ((↑j : Int) + (1 : Int))).toNat es)) none)] else none else none else bif decide (((↑es.length : Int) - IntKind.i64.wrap ((↑j : Int) + (1 : Int))).toNat < ((↑es.length : Int) - (↑j : Int)).toNat) then bif cnt (↑es.length : Int) (IntKind.i64.wrap ((↑j : Int) + (1 : Int))) es.length && es.all bE then k (Ex.exit (0 : Nat)) [AV.own (65 : Nat), AV.own (65 : Nat), AV.int IntKind.i64 (↑es.length : Int), AV.int IntKind.i64 (↑es.length : Int)] [some (Row.arr false (Sh.int IntKind.u8) e (List.take (IntKind.i64.wrap ((↑j : Int) + (1 : Int))).toNat es ++ List.map lowE (List.drop (IntKind.i64.wrap ((↑j : Int) + (1 : Int))).toNat es)) none)] else none else none else none else none else k (Ex.exit (0 : Nat)) [AV.own (65 : Nat), AV.own (65 : Nat), AV.int IntKind.i64 (↑es.length : Int), AV.int IntKind.i64 (↑j : Int)] [some (Row.arr false (Sh.int IntKind.u8) e es none)]) (by kernel_rfl) ?_
    rw [← hk]
    by_cases hlt : j < es.length
    · have w1 : IntKind.i64.wrap ((j : Int) + 1) = ((j + 1 : Nat) : Int) := by rw [wrap_small _ (by omega) (by omega)]; omega
      have hbe : bE (es.getD j .unk) = true := List.all_eq_true.1 hall _ (by rw [getD_eq hlt]; exact List.getElem_mem hlt)
      unfold bE at hbe
      simp only [Bool.and_eq_true] at hbe
      obtain ⟨m, hm⟩ : ∃ m, es.getD j .unk = .int .u8 m := byte_of hbe.1
      have hmr := hbe.2
      rw [hm] at hmr
      obtain ⟨m0, m1⟩ := inR_spec hmr
      have m0 : 0 ≤ m := m0
      have m1 : m ≤ 255 := m1
      rw [w1, Int.toNat_natCast, drop_getD hlt, List.map_cons, hm]
      have hx : (((AV.int .u8 m).cells.headD AV.unk).toInt) = m := rfl
      rw [hx]
      have hcn : cnt (es.length : Int) ((j + 1 : Nat) : Int) es.length = true := and_t (decide_eq_true rfl) (and_t (decide_eq_true (by omega)) (and_t (decide_eq_true (by omega)) (decide_eq_true hs)))
      have hkeep : ∀ v : AV, es.getD j .unk = v → es.take (j + 1) ++ (es.drop (j + 1)).map lowE = es.take j ++ v :: (es.drop (j + 1)).map lowE := fun v hv => by
        rw [List.take_succ_eq_append_getElem hlt, ← getD_eq hlt, hv]
        simp
      by_cases h1 : m ≥ 65
      · by_cases h2 : m ≤ 90
        · have hlow : lowE (.int .u8 m) = .int .u8 (m + 32) := by
            show AV.int .u8 (bif inR m 65 90 then m + 32 else m) = _
            rw [inR_of h1 h2]; rfl
          have hw : IntKind.u8.wrap (IntKind.u8.wrap (m + 97) - 65) = m + 32 := by
            rw [u8_small (m + 97) (by omega) (by omega), u8_small _ (by omega) (by omega)]; omega
          have hmk : ∀ z, mkAV (Sh.int IntKind.u8) [AV.int IntKind.u8 z] = AV.int IntKind.u8 z := fun _ => rfl
          rw [hw, hmk, hlow]
          have hset : (es.set j (AV.int .u8 (m + 32))).take (j + 1) ++ ((es.set j (AV.int .u8 (m + 32))).drop (j + 1)).map lowE = es.take j ++ AV.int .u8 (m + 32) :: (es.drop (j + 1)).map lowE := by
            rw [List.take_succ_eq_append_getElem (by rw [List.length_set]; exact hlt), List.getElem_set_self, List.take_set_of_le (Nat.le_refl _), List.drop_set_of_lt (Nat.lt_succ_self _)]
            simp
          have hal : (es.set j (AV.int .u8 (m + 32))).all bE = true := List.all_eq_true.2 fun x hx => by
            rcases List.mem_or_eq_of_mem_set hx with h' | h'
            · exact List.all_eq_true.1 hall x h'
            · rw [h']
              exact and_t rfl (inR_of (by show (0 : Int) ≤ m + 32; omega) (by show m + 32 ≤ 255; omega))
          rw [hset, List.length_set]
          refine Eq.trans (cond_t (decide_eq_true (by omega))) (Eq.trans (cond_t (inb_true (by omega) (by omega))) (Eq.trans (cond_t (decide_eq_true hlt)) (Eq.trans (cond_t (decide_eq_true h1)) (Eq.trans (cond_t (decide_eq_true h2)) (Eq.trans (cond_t (inb_true (by omega) (by omega))) (Eq.trans (cond_t (decide_eq_true hlt)) (Eq.trans (cond_t (decide_eq_true (by omega))) (Eq.trans (cond_t (and_t hcn hal)) ?_))))))))
          rfl
        · have hlow : lowE (.int .u8 m) = .int .u8 m := by
            show AV.int .u8 (bif inR m 65 90 then m + 32 else m) = _
            rw [show inR m 65 90 = false from by unfold inR; rw [decide_eq_false h2, Bool.and_false]]; rfl
          rw [hlow, hkeep _ hm]
          refine Eq.trans (cond_t (decide_eq_true (by omega))) (Eq.trans (cond_t (inb_true (by omega) (by omega))) (Eq.trans (cond_t (decide_eq_true hlt)) (Eq.trans (cond_t (decide_eq_true h1)) (Eq.trans (cond_f (decide_eq_false h2)) (Eq.trans (cond_t (decide_eq_true (by omega))) (Eq.trans (cond_t (and_t hcn hall)) ?_))))))
          rfl
      · have hlow : lowE (.int .u8 m) = .int .u8 m := by
          show AV.int .u8 (bif inR m 65 90 then m + 32 else m) = _
          rw [show inR m 65 90 = false from by unfold inR; rw [decide_eq_false h1, Bool.false_and]]; rfl
        rw [hlow, hkeep _ hm]
        refine Eq.trans (cond_t (decide_eq_true (by omega))) (Eq.trans (cond_t (inb_true (by omega) (by omega))) (Eq.trans (cond_t (decide_eq_true hlt)) (Eq.trans (cond_f (decide_eq_false h1)) (Eq.trans (cond_t (decide_eq_true (by omega))) (Eq.trans (cond_t (and_t hcn hall)) ?_)))))
        rfl
    · obtain rfl : j = es.length := by omega
      rw [decide_eq_false (by omega), List.drop_length, List.take_length, List.map_nil, List.append_nil]
      rfl
  · cases h
def lowU (c : UInt8) : UInt8 := UInt8.ofNat (lowI (c.toNat : Int)).toNat
def lowS (s : List UInt8) : List UInt8 := s.map lowU
theorem low_str (s : List UInt8) : strAV ((bytesAV s).map lowE) = lowS s := by
  unfold strAV bytesAV lowS
  rw [List.map_map, List.map_map]
  rfl
theorem bytes_all (s : List UInt8) : (bytesAV s).all bE = true := List.all_eq_true.2 fun x hx => by
  obtain ⟨b, _, rfl⟩ := List.mem_map.1 hx
  have : b.toNat < 256 := b.toNat_lt
  exact and_t rfl (inR_of (by show (0 : Int) ≤ (b.toNat : Int); omega) (by show (b.toNat : Int) ≤ 255; omega))
def F72 : List AV → Tr AV
  | [.str s] => .gd (small s.length) (.leaf (.str (lowS s)))
  | _ => .no
theorem ok72 : SumOK Tryz.prog 72 (ofT F72) ∧ SNat (ofT F72) := by
  refine fn1 (K := [(3, l72)]) (b := b72) (l := l72) gc Tryz.func72 (by kernel_rfl) (by kernel_rfl) loop72 fun ρ avs k r h => ?_
  unfold F72 at h
  split at h
  · rename_i s
    obtain ⟨hc, hk⟩ := gd_some h
    refine Eq.trans (b := bif lenB s.length then bif cnt (↑(bytesAV s).length : Int) (0 : Int) (bytesAV s).length && (bytesAV s).all bE then k (AV.str (strAV ([] ++ List.map lowE (List.drop (0 : Nat) (bytesAV s))))) else none else none) (by kernel_rfl) ?_
    rw [← hk]
    have hl : (bytesAV s).length = s.length := by unfold bytesAV; rw [List.length_map]
    have hcn : (cnt ((bytesAV s).length : Int) 0 (bytesAV s).length && (bytesAV s).all bE) = true := and_t (cnt_zero (by rw [hl]; exact hc)) (bytes_all s)
    rw [hcn, List.drop_zero, List.nil_append, low_str]
    exact cond_t hc
  · cases h
noncomputable def G42 : Env := { pure := [(71, ofT F71), (72, ofT F72)] }
theorem g42 : GOK Tryz.prog G42 := GOK.also (GOK.also g0 ok72) ok71
def F42 : List AV → Tr AV
  | [.str s] => .gd (small s.length) (.leaf (.bool (naB s && lowS s == s)))
  | _ => .no
theorem ok42 : SumOK Tryz.prog 42 (ofT F42) ∧ SNat (ofT F42) := by
  refine fn0 g42 Tryz.func42 (by kernel_rfl) fun ρ avs k r h => ?_
  unfold F42 at h
  split at h
  · rename_i s
    obtain ⟨hc, hk⟩ := gd_some h
    refine Eq.trans (b := bif small s.length then bif naB s then bif small s.length then k (AV.bool (lowS s == s)) else none else k (AV.bool false) else none) (by kernel_rfl) ?_
    rw [← hk, hc]
    show _ = k (.bool (naB s && lowS s == s))
    cases naB s <;> rfl
  · cases h
def smI (n : Int) : Bool := inR n 97 122 || (inR n 48 57 || (n == 45 || (n == 95 || n == 46)))
noncomputable def G19 : Env := { pure := [(39, ofT F39)] }
theorem g19 : GOK Tryz.prog G19 := GOK.also g0 ok39
noncomputable def b19 : Code := ((Tryz.f19.body.map loopsOf).getD []).headD .skip
def L19 : List AV → List (Option Row) → Tr LOut
  | [.str s, .bool b, .int .i64 i], [] =>
    .gd (cnt s.length i s.length) (sT (fun i => !smI (atI s i)) s.length (fun q => .leaf (.ret, [.str s, .bool false, .int .i64 (q : Nat)], [])) (.leaf (.exit 0, [.str s, .bool b, .int .i64 s.length], [])) i.toNat)
  | _, _ => .no
def l19 : Ev.Loop := ⟨{ len := 38, slots := [0, 2, 3] }, ofL L19⟩
def μ19 (vs : List AV) (_ : List (Option Row)) : Nat := match vs with
  | [.str s, _, .int _ i] => ((s.length : Int) - i).toNat
  | _ => 0
theorem loop19 : LoopOK Tryz.prog G19 [(2, l19)] b19 l19 := by
  refine loopT g19.natOK rfl (KOK.nil (by kernel_rfl)) μ19 (fun ρ vs rs k r h => ?_)
  unfold L19 at h
  split at h
  · rename_i s b i
    obtain ⟨hc, hk⟩ := gd_some h
    obtain ⟨_, hs, j, rfl, hj⟩ := cnt_spec hc
    rw [Int.toNat_natCast] at hk
    refine Eq.trans (b := bif decide ((↑j : Int) < (↑s.length : Int)) then bif inb (↑j : Int) s.length then bif !inR (IntKind.i64.wrap (↑(s.getD j (0 : UInt8)).toNat : Int)) (97 : Int) (122 : Int) then bif !inR (IntKind.i64.wrap (↑(s.getD j (0 : UInt8)).toNat : Int)) (48 : Int) (57 : Int) then bif IntKind.i64.wrap (↑(s.getD j (0 : UInt8)).toNat : Int) != (45 : Int) then bif IntKind.i64.wrap (↑(s.getD j (0 : UInt8)).toNat : Int) != (95 : Int) then bif IntKind.i64.wrap (↑(s.getD j (0 : UInt8)).toNat : Int) != (46 : Int) then k Ex.ret [AV.str s, AV.bool false, AV.int IntKind.i64 (↑j : Int)] [] else bif decide (((↑s.length : Int) - IntKind.i64.wrap ((↑j : Int) + (1 : Int))).toNat < ((↑s.length : Int) - (↑j : Int)).toNat) then bif cnt (↑s.length : Int) (IntKind.i64.wrap ((↑j : Int) + (1 : Int))) s.length then bif (findN (fun i => !smI (atI s i)) s.length (IntKind.i64.wrap ((↑j : Int) + (1 : Int))).toNat).isSome then k Ex.ret [AV.str s, AV.bool false, AV.int IntKind.i64 (↑((findN (fun i => !smI (atI s i)) s.length (IntKind.i64.wrap ((↑j : Int) + (1 : Int))).toNat).getD (0 : Nat)) : Int)] [] else k (Ex.exit (0 : Nat)) [AV.str s, AV.bool b, AV.int IntKind.i64 (↑s.length : Int)] [] else none else none else bif decide (((↑s.length : Int) - IntKind.i64.wrap ((↑j : Int) + (1 : Int))).toNat < ((↑s.length : Int) - (↑j : Int)).toNat) then bif cnt (↑s.length : Int) (IntKind.i64.wrap ((↑j : Int) + (1 : Int))) s.length then bif (findN (fun i => !smI (atI s i)) s.length (IntKind.i64.wrap ((↑j : Int) + (1 : Int))).toNat).isSome then k Ex.ret [AV.str s, AV.bool false, AV.int IntKind.i64 (↑((findN (fun i => !smI (atI s i)) s.length (IntKind.i64.wrap ((↑j : Int) + (1 : Int))).toNat).getD (0 : Nat)) : Int)] [] else k (Ex.exit (0 : Nat)) [AV.str s, AV.bool b, AV.int IntKind.i64 (↑s.length : Int)] [] else none else none else bif decide (((↑s.length : Int) - IntKind.i64.wrap ((↑j : Int) + (1 : Int))).toNat < ((↑s.length : Int) - (↑j : Int)).toNat) then bif cnt (↑s.length : Int) (IntKind.i64.wrap ((↑j : Int) + (1 : Int))) s.length then bif (findN (fun i => !smI (atI s i)) s.length (IntKind.i64.wrap ((↑j : Int) + (1 : Int))).toNat).isSome then k Ex.ret [AV.str s, AV.bool false, AV.int IntKind.i64 (↑((findN (fun i => !smI (atI s i)) s.length (IntKind.i64.wrap ((↑j : Int) + (1 : Int))).toNat).getD (0 : Nat)) : Int)] [] else k (Ex.exit (0 : Nat)) [AV.str s, AV.bool b, AV.int IntKind.i64 (↑s.length : Int)] [] else none else none else bif decide (((↑s.length : Int) - IntKind.i64.wrap ((↑j : Int) + (1 : Int))).toNat < ((↑s.length : Int) - (↑j : Int)).toNat) then bif cnt (↑s.length : Int) (IntKind.i64.wrap ((↑j : Int) + (1 : Int))) s.length then bif (findN (fun i => !smI (atI s i)) s.length (IntKind.i64.wrap ((↑j : Int) + (1 : Int))).toNat).isSome then k Ex.ret [AV.str s, AV.bool false, AV.int IntKind.i64 (↑((findN (fun i => !smI (atI s i)) s.length (IntKind.i64.wrap ((↑j : Int) + (1 : Int))).toNat).getD (0 : Nat)) : Int)] [] else k (Ex.exit (0 : Nat)) [AV.str s, AV.bool b, AV.int IntKind.i64 (↑s.length : Int)] [] else none else none else bif decide (((↑s.length : Int) - IntKind.i64.wrap ((↑j : Int) + (1 : Int))).toNat < ((↑s.length : Int) - (↑j : Int)).toNat) then bif cnt (↑s.length : Int) (IntKind.i64.wrap ((↑j : Int) + (1 : Int))) s.length then bif (findN (fun i => !smI (atI s i)) s.length (IntKind.i64.wrap ((↑j : Int) + (1 : Int))).toNat).isSome then k Ex.ret [AV.str s, AV.bool false, AV.int IntKind.i64 (↑((findN (fun i => !smI (atI s i)) s.length (IntKind.i64.wrap ((↑j : Int) + (1 : Int))).toNat).getD (0 : Nat)) : Int)] [] else k (Ex.exit (0 : Nat)) [AV.str s, AV.bool b, AV.int IntKind.i64 (↑s.length : Int)] [] else none else none else none else k (Ex.exit (0 : Nat)) [AV.str s, AV.bool b, AV.int IntKind.i64 (↑j : Int)] []) (by kernel_rfl) ?_
    rw [← hk]
    by_cases hlt : j < s.length
    · obtain ⟨e1, e2, e3, e4, e5⟩ := cnt_facts hlt hs
      rw [sT_step _ _ _ _ _ hlt]
      have hb : (s.getD j 0).toNat < 256 := (s.getD j 0).toNat_lt
      have hw : IntKind.i64.wrap (((s.getD j (0 : UInt8)).toNat : Nat) : Int) = atI s j := by unfold atI; exact wrap_small _ (by omega) (by omega)
      rw [hw]
      have hsm : smI (atI s j) = (inR (atI s j) 97 122 || (inR (atI s j) 48 57 || (atI s j == 45 || (atI s j == 95 || atI s j == 46)))) := rfl
      simp only [hsm, e1, e2, e3, e4, e5, cond_true, Int.toNat_natCast]
      cases inR (atI s j) 97 122 <;> cases inR (atI s j) 48 57 <;> cases h1 : atI s j == 45 <;> cases h2 : atI s j == 95 <;> cases h3 : atI s j == 46 <;> simp only [bne, h1, h2, h3] <;> rfl
    · obtain rfl : j = s.length := by omega
      rw [decide_eq_false (by omega), sT_end]
      rfl
  · cases h
def nmS (s : List UInt8) : Bool := allN smI s && inR s.length 1 60
def F19 : List AV → Tr AV
  | [.str s] => .gd (small s.length) (.leaf (.bool (nmS s)))
  | _ => .no
theorem ok19 : SumOK Tryz.prog 19 (ofT F19) ∧ SNat (ofT F19) := by
  refine fn1 (K := [(2, l19)]) (b := b19) (l := l19) g19 Tryz.func19 (by kernel_rfl) (by kernel_rfl) loop19 fun ρ avs k r h => ?_
  unfold F19 at h
  split at h
  · rename_i s
    obtain ⟨hc, hk⟩ := gd_some h
    refine Eq.trans (b := bif cnt (↑s.length : Int) (0 : Int) s.length then bif (findN (fun i => !smI (atI s i)) s.length (0 : Nat)).isSome then k (AV.bool false) else k (AV.bool (inR (↑s.length : Int) (1 : Int) (60 : Int))) else none) (by kernel_rfl) ?_
    rw [← hk, cnt_zero hc]
    show _ = k (.bool (nmS s))
    unfold nmS allN
    cases (findN (fun i => !smI (atI s i)) s.length 0).isSome <;> rfl
  · cases h
theorem allN_iff {p : Int → Bool} {s : List UInt8} : allN p s = true ↔ ∀ i, i < s.length → p (atI s i) = true := by
  unfold allN
  cases h : findN (fun i => !p (atI s i)) s.length 0 with
  | none =>
    refine ⟨fun _ i hi => ?_, fun _ => rfl⟩
    have := findN_none h i (Nat.zero_le _) hi
    simpa using this
  | some q =>
    obtain ⟨_, h2, h3, _⟩ := findN_some h
    refine ⟨fun h => (by cases h), fun hall => ?_⟩
    have := hall q h2
    rw [this] at h3; cases h3
theorem small_name (s : List UInt8) : (naB s && lowS s == s) = nmS s := by
  have key : (naB s && lowS s == s) = true ↔ nmS s = true := by
    unfold naB nmS
    simp only [Bool.and_eq_true, Bool.not_eq_true', decide_eq_true_eq, allN_iff, beq_eq_false_iff_ne, beq_iff_eq]
    have hlow : ∀ n : Int, 0 ≤ n → n ≤ 255 → nmI n = true → (inR n 65 90 = false ↔ smI n = true) := fun n h0 h1 hn => by
      unfold nmI ltI at hn
      unfold smI inR at *
      simp only [Bool.or_eq_true, Bool.and_eq_true, decide_eq_true_eq, beq_iff_eq, Bool.and_eq_false_iff, decide_eq_false_iff_not] at *
      omega
    have hsm : ∀ n : Int, smI n = true → nmI n = true ∧ inR n 65 90 = false := fun n hn => by
      unfold nmI ltI
      unfold smI at hn
      unfold inR at *
      simp only [Bool.or_eq_true, Bool.and_eq_true, decide_eq_true_eq, beq_iff_eq, Bool.and_eq_false_iff, decide_eq_false_iff_not] at *
      omega
    have hat : ∀ i, i < s.length → atI s i = ((s[i]?.getD 0).toNat : Int) := fun i _ => by unfold atI; rw [List.getD_eq_getElem?_getD]
    have hfix : lowS s = s ↔ ∀ i, i < s.length → inR (atI s i) 65 90 = false := by
      constructor
      · intro h i hi
        have := congrArg (fun l => l[i]?) h
        simp only [lowS, List.getElem?_map, List.getElem?_eq_getElem hi, Option.map_some, Option.some.injEq] at this
        have hb : (s[i]).toNat < 256 := (s[i]).toNat_lt
        have hai : atI s i = ((s[i]).toNat : Int) := by unfold atI; rw [List.getD_eq_getElem?_getD, List.getElem?_eq_getElem hi]; rfl
        rw [hai]
        cases hr : inR ((s[i]).toNat : Int) 65 90
        · rfl
        · exfalso
          unfold lowU lowI at this
          rw [hr, cond_true] at this
          have h2 := congrArg UInt8.toNat this
          obtain ⟨r1, r2⟩ := inR_spec hr
          rw [UInt8.toNat_ofNat_of_lt' (by show _ < 256; omega)] at h2
          omega
      · intro h
        unfold lowS
        refine List.ext_getElem (by rw [List.length_map]) fun i h1 h2 => ?_
        rw [List.getElem_map]
        have hai : atI s i = ((s[i]).toNat : Int) := by unfold atI; rw [List.getD_eq_getElem?_getD, List.getElem?_eq_getElem h2]; rfl
        have := h i h2
        rw [hai] at this
        unfold lowU lowI
        rw [this, cond_false, Int.toNat_natCast, UInt8.ofNat_toNat]
    rw [hfix]
    have hb : ∀ i, i < s.length → 0 ≤ atI s i ∧ atI s i ≤ 255 := fun i _ => by
      have : (s.getD i 0).toNat < 256 := (s.getD i 0).toNat_lt
      unfold atI; omega
    constructor
    · rintro ⟨⟨h1, h2, h3⟩, h4⟩
      refine ⟨fun i hi => (hlow _ (hb i hi).1 (hb i hi).2 (h3 i hi)).1 (h4 i hi), ?_⟩
      have : 0 < s.length := List.length_pos_iff.2 h1
      exact inR_of (by omega) h2
    · rintro ⟨h1, h2⟩
      obtain ⟨l1, l2⟩ := inR_spec h2
      refine ⟨⟨fun he => by rw [he] at l1; simp at l1, l2, fun i hi => (hsm _ (h1 i hi)).1⟩, fun i hi => (hsm _ (h1 i hi)).2⟩
  cases h1 : (naB s && lowS s == s) <;> cases h2 : nmS s <;> simp [h1, h2] at key ⊢
theorem ok42' : SumOK Tryz.prog 42 (ofT F19) ∧ SNat (ofT F19) := by
  have : ofT F42 = ofT F19 := by
    funext ρ avs k
    show (F42 avs).run k = (F19 avs).run k
    unfold F42 F19
    split
    · rename_i s
      show _ = (Tr.gd (small s.length) (Tr.leaf (.bool (nmS s)))).run k
      rw [small_name]
    · rfl
  exact this ▸ ok42
end Go.Proofs.YthdhfmdhjanoaaaGreatDoor


namespace Go.Proofs.YthdhfmdhjanoaaaGreatDoor
open Go.Ev
theorem sumT_or {f : Nat} {p q : List AV → Tr AV} (hp : SumOK Tryz.prog f (ofT p) ∧ SNat (ofT p)) (hq : SumOK Tryz.prog f (ofT q) ∧ SNat (ofT q)) (c : List AV → Bool) :
    SumOK Tryz.prog f (ofT fun a => bif c a then p a else q a) ∧ SNat (ofT fun a => bif c a then p a else q a) := by
  refine ⟨fun ρ w S avs args k r hS hv h => ?_, snat_ofT _⟩
  have h' : (bif c avs then p avs else q avs).run k = some r := h
  cases hc : c avs
  · rw [hc] at h'; exact hq.1 ρ w S avs args k r hS hv h'
  · rw [hc] at h'; exact hp.1 ρ w S avs args k r hS hv h'
def hxI (n : Int) : Bool := inR n 48 57 || inR n 97 102
def F88 : List AV → Tr AV
  | [.int .u8 n] => .leaf (.bool (hxI n))
  | _ => .no
theorem ok88 : SumOK Tryz.prog 88 (ofT F88) ∧ SNat (ofT F88) := by
  refine fn0 g0 Tryz.func88 (by kernel_rfl) fun ρ avs k r h => ?_
  unfold F88 at h
  split at h
  · rename_i n
    have hk := h
    refine Eq.trans (b := bif decide (n ≥ (48 : Int)) then bif decide (n ≤ (57 : Int)) then k (AV.bool true) else bif decide (n ≥ (97 : Int)) then k (AV.bool (decide (n ≤ (102 : Int)))) else k (AV.bool false) else bif decide (n ≥ (97 : Int)) then k (AV.bool (decide (n ≤ (102 : Int)))) else k (AV.bool false)) (by kernel_rfl) ?_
    rw [← hk]
    show _ = k (.bool ((decide (48 ≤ n) && decide (n ≤ 57)) || (decide (97 ≤ n) && decide (n ≤ 102))))
    cases decide (n ≥ 97) <;> cases decide (n ≤ 102) <;> cases decide (n ≥ 48) <;> cases decide (n ≤ 57) <;> rfl
  · cases h
def fnI (n : Int) : Bool := inR n 33 126 && !(n == 58)
def F112 : List AV → Tr AV
  | [.int .u8 n] => .leaf (.bool (fnI n))
  | _ => .no
theorem ok112 : SumOK Tryz.prog 112 (ofT F112) ∧ SNat (ofT F112) := by
  refine fn0 g0 Tryz.func112 (by kernel_rfl) fun ρ avs k r h => ?_
  unfold F112 at h
  split at h
  · rename_i n
    have hk := h
    refine Eq.trans (b := bif decide (n ≥ (33 : Int)) then bif decide (n ≤ (126 : Int)) then k (AV.bool (n != (58 : Int))) else k (AV.bool false) else k (AV.bool false)) (by kernel_rfl) ?_
    rw [← hk]
    show _ = k (.bool ((decide (33 ≤ n) && decide (n ≤ 126)) && !(n == 58)))
    cases decide (n ≥ 33) <;> cases decide (n ≤ 126) <;> cases h5 : n == 58 <;> simp [bne, h5]
  · cases h
noncomputable def G87b : Env := { pure := [(88, ofT F88)] }
theorem g87b : GOK Tryz.prog G87b := GOK.also g0 ok88
noncomputable def b87b : Code := ((Tryz.f87.body.map loopsOf).getD []).headD .skip
def L87b : List AV → List (Option Row) → Tr LOut
  | [.str s, .fn 88 [], .bool b, .int .i64 n, .int .i64 i], [] =>
    .gd (cnt n i s.length) (sT (fun i => !hxI (atI s i)) s.length (fun q => .leaf (.ret, [.str s, .fn 88 [], .bool false, .int .i64 n, .int .i64 (q : Nat)], [])) (.leaf (.exit 0, [.str s, .fn 88 [], .bool b, .int .i64 n, .int .i64 s.length], [])) i.toNat)
  | _, _ => .no
def l87b : Ev.Loop := ⟨{ len := 18, slots := [0, 1, 4, 7, 8] }, ofL L87b⟩
def μ87b (vs : List AV) (_ : List (Option Row)) : Nat := match vs with
  | [_, _, _, .int _ n, .int _ i] => (n - i).toNat
  | _ => 0
theorem loop87b : LoopOK Tryz.prog G87b [(2, l87b)] b87b l87b := by
  refine loopT g87b.natOK rfl (KOK.nil (by kernel_rfl)) μ87b (fun ρ vs rs k r h => ?_)
  unfold L87b at h
  split at h
  · rename_i s b n i
    obtain ⟨hc, hk⟩ := gd_some h
    obtain ⟨rfl, hs, j, rfl, hj⟩ := cnt_spec hc
    rw [Int.toNat_natCast] at hk
    refine Eq.trans (b := bif decide ((↑j : Int) < (↑s.length : Int)) then bif inb (↑j : Int) s.length then bif !hxI (↑(s.getD j (0 : UInt8)).toNat : Int) then k Ex.ret [AV.str s, AV.fn (88 : Nat) [], AV.bool false, AV.int IntKind.i64 (↑s.length : Int), AV.int IntKind.i64 (↑j : Int)] [] else bif decide (((↑s.length : Int) - IntKind.i64.wrap ((↑j : Int) + (1 : Int))).toNat < ((↑s.length : Int) - (↑j : Int)).toNat) then bif cnt (↑s.length : Int) (IntKind.i64.wrap ((↑j : Int) + (1 : Int))) s.length then bif (findN (fun i => !hxI (atI s i)) s.length (IntKind.i64.wrap ((↑j : Int) + (1 : Int))).toNat).isSome then k Ex.ret [AV.str s, AV.fn (88 : Nat) [], AV.bool false, AV.int IntKind.i64 (↑s.length : Int), AV.int IntKind.i64 (↑((findN (fun i => !hxI (atI s i)) s.length (IntKind.i64.wrap ((↑j : Int) + (1 : Int))).toNat).getD (0 : Nat)) : Int)] [] else k (Ex.exit (0 : Nat)) [AV.str s, AV.fn (88 : Nat) [], AV.bool b, AV.int IntKind.i64 (↑s.length : Int), AV.int IntKind.i64 (↑s.length : Int)] [] else none else none else none else k (Ex.exit (0 : Nat)) [AV.str s, AV.fn (88 : Nat) [], AV.bool b, AV.int IntKind.i64 (↑s.length : Int), AV.int IntKind.i64 (↑j : Int)] []) (by kernel_rfl) ?_
    rw [← hk]
    by_cases hlt : j < s.length
    · obtain ⟨e1, e2, e3, e4, e5⟩ := cnt_facts hlt hs
      rw [sT_step _ _ _ _ _ hlt]
      simp only [e1, e2, e3, e4, e5, cond_true, Int.toNat_natCast]
      rfl
    · obtain rfl : j = s.length := by omega
      rw [decide_eq_false (by omega), sT_end]
      rfl
  · cases h
def F87b : List AV → Tr AV
  | [.str s, .fn 88 []] => .gd (small s.length) (.leaf (.bool (allN hxI s)))
  | _ => .no
theorem ok87b : SumOK Tryz.prog 87 (ofT F87b) ∧ SNat (ofT F87b) := by
  refine fn1 (K := [(2, l87b)]) (b := b87b) (l := l87b) g87b Tryz.func87 (by kernel_rfl) (by kernel_rfl) loop87b fun ρ avs k r h => ?_
  unfold F87b at h
  split at h
  · rename_i s
    obtain ⟨hc, hk⟩ := gd_some h
    refine Eq.trans (b := bif cnt (↑s.length : Int) (0 : Int) s.length then bif (findN (fun i => !hxI (atI s i)) s.length (0 : Nat)).isSome then k (AV.bool false) else k (AV.bool true) else none) (by kernel_rfl) ?_
    rw [← hk, cnt_zero hc]
    show _ = k (.bool (allN hxI s))
    unfold allN
    cases (findN (fun i => !hxI (atI s i)) s.length 0).isSome <;> rfl
  · cases h
noncomputable def G87c : Env := { pure := [(112, ofT F112)] }
theorem g87c : GOK Tryz.prog G87c := GOK.also g0 ok112
noncomputable def b87c : Code := ((Tryz.f87.body.map loopsOf).getD []).headD .skip
def L87c : List AV → List (Option Row) → Tr LOut
  | [.str s, .fn 112 [], .bool b, .int .i64 n, .int .i64 i], [] =>
    .gd (cnt n i s.length) (sT (fun i => !fnI (atI s i)) s.length (fun q => .leaf (.ret, [.str s, .fn 112 [], .bool false, .int .i64 n, .int .i64 (q : Nat)], [])) (.leaf (.exit 0, [.str s, .fn 112 [], .bool b, .int .i64 n, .int .i64 s.length], [])) i.toNat)
  | _, _ => .no
def l87c : Ev.Loop := ⟨{ len := 18, slots := [0, 1, 4, 7, 8] }, ofL L87c⟩
def μ87c (vs : List AV) (_ : List (Option Row)) : Nat := match vs with
  | [_, _, _, .int _ n, .int _ i] => (n - i).toNat
  | _ => 0
theorem loop87c : LoopOK Tryz.prog G87c [(2, l87c)] b87c l87c := by
  refine loopT g87c.natOK rfl (KOK.nil (by kernel_rfl)) μ87c (fun ρ vs rs k r h => ?_)
  unfold L87c at h
  split at h
  · rename_i s b n i
    obtain ⟨hc, hk⟩ := gd_some h
    obtain ⟨rfl, hs, j, rfl, hj⟩ := cnt_spec hc
    rw [Int.toNat_natCast] at hk
    refine Eq.trans (b := bif decide ((↑j : Int) < (↑s.length : Int)) then bif inb (↑j : Int) s.length then bif !fnI (↑(s.getD j (0 : UInt8)).toNat : Int) then k Ex.ret [AV.str s, AV.fn (112 : Nat) [], AV.bool false, AV.int IntKind.i64 (↑s.length : Int), AV.int IntKind.i64 (↑j : Int)] [] else bif decide (((↑s.length : Int) - IntKind.i64.wrap ((↑j : Int) + (1 : Int))).toNat < ((↑s.length : Int) - (↑j : Int)).toNat) then bif cnt (↑s.length : Int) (IntKind.i64.wrap ((↑j : Int) + (1 : Int))) s.length then bif (findN (fun i => !fnI (atI s i)) s.length (IntKind.i64.wrap ((↑j : Int) + (1 : Int))).toNat).isSome then k Ex.ret [AV.str s, AV.fn (112 : Nat) [], AV.bool false, AV.int IntKind.i64 (↑s.length : Int), AV.int IntKind.i64 (↑((findN (fun i => !fnI (atI s i)) s.length (IntKind.i64.wrap ((↑j : Int) + (1 : Int))).toNat).getD (0 : Nat)) : Int)] [] else k (Ex.exit (0 : Nat)) [AV.str s, AV.fn (112 : Nat) [], AV.bool b, AV.int IntKind.i64 (↑s.length : Int), AV.int IntKind.i64 (↑s.length : Int)] [] else none else none else none else k (Ex.exit (0 : Nat)) [AV.str s, AV.fn (112 : Nat) [], AV.bool b, AV.int IntKind.i64 (↑s.length : Int), AV.int IntKind.i64 (↑j : Int)] []) (by kernel_rfl) ?_
    rw [← hk]
    by_cases hlt : j < s.length
    · obtain ⟨e1, e2, e3, e4, e5⟩ := cnt_facts hlt hs
      rw [sT_step _ _ _ _ _ hlt]
      simp only [e1, e2, e3, e4, e5, cond_true, Int.toNat_natCast]
      rfl
    · obtain rfl : j = s.length := by omega
      rw [decide_eq_false (by omega), sT_end]
      rfl
  · cases h
def F87c : List AV → Tr AV
  | [.str s, .fn 112 []] => .gd (small s.length) (.leaf (.bool (allN fnI s)))
  | _ => .no
theorem ok87c : SumOK Tryz.prog 87 (ofT F87c) ∧ SNat (ofT F87c) := by
  refine fn1 (K := [(2, l87c)]) (b := b87c) (l := l87c) g87c Tryz.func87 (by kernel_rfl) (by kernel_rfl) loop87c fun ρ avs k r h => ?_
  unfold F87c at h
  split at h
  · rename_i s
    obtain ⟨hc, hk⟩ := gd_some h
    refine Eq.trans (b := bif cnt (↑s.length : Int) (0 : Int) s.length then bif (findN (fun i => !fnI (atI s i)) s.length (0 : Nat)).isSome then k (AV.bool false) else k (AV.bool true) else none) (by kernel_rfl) ?_
    rw [← hk, cnt_zero hc]
    show _ = k (.bool (allN fnI s))
    unfold allN
    cases (findN (fun i => !fnI (atI s i)) s.length 0).isSome <;> rfl
  · cases h
def isFn (g : Nat) : List AV → Bool
  | [_, .fn f []] => f == g
  | _ => false
def FAll : List AV → Tr AV := fun a => bif isFn 88 a then F87b a else bif isFn 112 a then F87c a else F87 a
theorem okAll : SumOK Tryz.prog 87 (ofT FAll) ∧ SNat (ofT FAll) := sumT_or ok87b (sumT_or ok87c ok87 _) _
noncomputable def GAll : Env := { pure := [(87, ofT FAll)] }
theorem gAll : GOK Tryz.prog GAll := GOK.also g0 okAll
def hexB (s : List UInt8) : Bool := ((s.length : Int) == 16) && allN hxI s
def F69 : List AV → Tr AV
  | [.str s] => .gd (small s.length) (.leaf (.bool (hexB s)))
  | _ => .no
theorem ok69 : SumOK Tryz.prog 69 (ofT F69) ∧ SNat (ofT F69) := by
  refine fn0 gAll Tryz.func69 (by kernel_rfl) fun ρ avs k r h => ?_
  unfold F69 at h
  split at h
  · rename_i s
    obtain ⟨hc, hk⟩ := gd_some h
    refine Eq.trans (b := bif (↑s.length : Int) == (16 : Int) then bif small s.length then k (AV.bool (allN hxI s)) else none else k (AV.bool false)) (by kernel_rfl) ?_
    rw [← hk, hc]
    show _ = k (.bool (((s.length : Int) == 16) && allN hxI s))
    cases (s.length : Int) == 16 <;> rfl
  · cases h
def fnB (s : List UInt8) : Bool := !(s == []) && (decide ((s.length : Int) ≤ 60) && allN fnI s)
def F98 : List AV → Tr AV
  | [.str s] => .gd (small s.length) (.leaf (.bool (fnB s)))
  | _ => .no
theorem ok98 : SumOK Tryz.prog 98 (ofT F98) ∧ SNat (ofT F98) := by
  refine fn0 gAll Tryz.func98 (by kernel_rfl) fun ρ avs k r h => ?_
  unfold F98 at h
  split at h
  · rename_i s
    obtain ⟨hc, hk⟩ := gd_some h
    refine Eq.trans (b := bif !s == ([] : List UInt8) then bif decide ((↑s.length : Int) ≤ (60 : Int)) then bif small s.length then k (AV.bool (allN fnI s)) else none else k (AV.bool false) else k (AV.bool false)) (by kernel_rfl) ?_
    rw [← hk, hc]
    show _ = k (.bool (!(s == []) && (decide ((s.length : Int) ≤ 60) && allN fnI s)))
    cases s == [] <;> cases decide ((s.length : Int) ≤ 60) <;> rfl
  · cases h
def eqF (a b : List UInt8) : Bool := ((a.length : Int) == (b.length : Int)) && lowS a == lowS b
noncomputable def G53 : Env := { pure := [(72, ofT F72)] }
theorem g53 : GOK Tryz.prog G53 := GOK.also g0 ok72
def F53 : List AV → Tr AV
  | [.str a, .str b] => .gd (small a.length && small b.length) (.leaf (.bool (eqF a b)))
  | _ => .no
theorem ok53 : SumOK Tryz.prog 53 (ofT F53) ∧ SNat (ofT F53) := by
  refine fn0 g53 Tryz.func53 (by kernel_rfl) fun ρ avs k r h => ?_
  unfold F53 at h
  split at h
  · rename_i a b
    obtain ⟨hc, hk⟩ := gd_some h
    simp only [Bool.and_eq_true] at hc
    obtain ⟨ha, hb⟩ := hc
    refine Eq.trans (b := bif (↑a.length : Int) == (↑b.length : Int) then bif small a.length then bif small b.length then k (AV.bool (lowS a == lowS b)) else none else none else k (AV.bool false)) (by kernel_rfl) ?_
    rw [← hk, ha, hb]
    show _ = k (.bool (((a.length : Int) == (b.length : Int)) && lowS a == lowS b))
    cases (a.length : Int) == (b.length : Int) <;> rfl
  · cases h
theorem atI_r (s : List UInt8) (i : Nat) : 0 ≤ atI s i ∧ atI s i ≤ 255 := by
  have : (s.getD i 0).toNat < 256 := (s.getD i 0).toNat_lt
  unfold atI; omega
theorem atI_in (s : List UInt8) (i : Nat) : inR (atI s i) 0 255 = true := inR_of (atI_r s i).1 (atI_r s i).2
def F61 : List AV → Tr AV
  | [.int .u8 n] => .gd (inR n 0 255) (.leaf (.int .u8 (lowI n)))
  | _ => .no
theorem ok61 : SumOK Tryz.prog 61 (ofT F61) ∧ SNat (ofT F61) := by
  refine fn0 g19 Tryz.func61 (by kernel_rfl) fun ρ avs k r h => ?_
  unfold F61 at h
  split at h
  · rename_i n
    obtain ⟨hc, hk⟩ := gd_some h
    refine Eq.trans (b := bif inR (IntKind.i64.wrap n) (65 : Int) (90 : Int) then k (AV.int IntKind.u8 (IntKind.u8.wrap (n + (32 : Int)))) else k (AV.int IntKind.u8 n)) (by kernel_rfl) ?_
    rw [← hk]
    obtain ⟨h0, h1⟩ := inR_spec hc
    have e1 : IntKind.i64.wrap n = n := wrap_small _ (by omega) (by omega)
    rw [e1]
    show _ = k (.int .u8 (bif inR n 65 90 then n + 32 else n))
    cases hr : inR n 65 90
    · rfl
    · obtain ⟨r0, r1⟩ := inR_spec hr
      rw [u8_small (n + 32) (by omega) (by omega)]
      rfl
  · cases h
noncomputable def G31 : Env := { pure := [(61, ofT F61)] }
theorem g31 : GOK Tryz.prog G31 := GOK.also g0 ok61
noncomputable def b31 : Code := ((Tryz.f31.body.map loopsOf).getD []).headD .skip
def neL (a b : List UInt8) (i : Nat) : Bool := !(lowI (atI a i) == lowI (atI b i))
def L31 : List AV → List (Option Row) → Tr LOut
  | [.str a, .str b, .bool r, .int .i64 i], [] =>
    .gd (cnt a.length i a.length && ((a.length : Int) == (b.length : Int))) (sT (neL a b) a.length (fun q => .leaf (.ret, [.str a, .str b, .bool false, .int .i64 (q : Nat)], [])) (.leaf (.exit 0, [.str a, .str b, .bool r, .int .i64 a.length], [])) i.toNat)
  | _, _ => .no
def l31 : Ev.Loop := ⟨{ len := 26, slots := [0, 1, 4, 5] }, ofL L31⟩
def μ31 (vs : List AV) (_ : List (Option Row)) : Nat := match vs with
  | [.str a, _, _, .int _ i] => ((a.length : Int) - i).toNat
  | _ => 0
theorem loop31 : LoopOK Tryz.prog G31 [(4, l31)] b31 l31 := by
  refine loopT g31.natOK rfl (KOK.nil (by kernel_rfl)) μ31 (fun ρ vs rs k r h => ?_)
  unfold L31 at h
  split at h
  · rename_i a b v i
    obtain ⟨hc, hk⟩ := gd_some h
    simp only [Bool.and_eq_true] at hc
    obtain ⟨hc, hab⟩ := hc
    have hab' : a.length = b.length := Int.ofNat.inj (by simpa using hab)
    obtain ⟨_, hs, j, rfl, hj⟩ := cnt_spec hc
    rw [Int.toNat_natCast] at hk
    refine Eq.trans (b := bif decide ((↑j : Int) < (↑a.length : Int)) then bif inb (↑j : Int) a.length then bif inR (↑(a.getD j (0 : UInt8)).toNat : Int) (0 : Int) (255 : Int) then bif inb (↑j : Int) b.length then bif inR (↑(b.getD j (0 : UInt8)).toNat : Int) (0 : Int) (255 : Int) then bif lowI (↑(a.getD j (0 : UInt8)).toNat : Int) != lowI (↑(b.getD j (0 : UInt8)).toNat : Int) then k Ex.ret [AV.str a, AV.str b, AV.bool false, AV.int IntKind.i64 (↑j : Int)] [] else bif decide (((↑a.length : Int) - IntKind.i64.wrap ((↑j : Int) + (1 : Int))).toNat < ((↑a.length : Int) - (↑j : Int)).toNat) then bif cnt (↑a.length : Int) (IntKind.i64.wrap ((↑j : Int) + (1 : Int))) a.length && (↑a.length : Int) == (↑b.length : Int) then bif (findN (neL a b) a.length (IntKind.i64.wrap ((↑j : Int) + (1 : Int))).toNat).isSome then k Ex.ret [AV.str a, AV.str b, AV.bool false, AV.int IntKind.i64 (↑((findN (neL a b) a.length (IntKind.i64.wrap ((↑j : Int) + (1 : Int))).toNat).getD (0 : Nat)) : Int)] [] else k (Ex.exit (0 : Nat)) [AV.str a, AV.str b, AV.bool v, AV.int IntKind.i64 (↑a.length : Int)] [] else none else none else none else none else none else none else k (Ex.exit (0 : Nat)) [AV.str a, AV.str b, AV.bool v, AV.int IntKind.i64 (↑j : Int)] []) (by kernel_rfl) ?_
    rw [← hk]
    by_cases hlt : j < a.length
    · obtain ⟨e1, e2, e3, e4, e5⟩ := cnt_facts hlt hs
      have e2' : inb (j : Int) b.length = true := inb_true (by omega) (by omega)
      rw [sT_step _ _ _ _ _ hlt]
      have hx : ∀ s : List UInt8, ((s.getD j (0 : UInt8)).toNat : Int) = atI s j := fun s => rfl
      simp only [Int.toNat_natCast, hx, atI_in, e1, e2, e2', e3, e4, e5, hab, Bool.and_true, cond_true, neL, bne]
      cases (lowI (atI a j) == lowI (atI b j)) <;> rfl
    · obtain rfl : j = a.length := by omega
      rw [decide_eq_false (by omega), sT_end]
      rfl
  · cases h
def alkF (a b : List UInt8) : Bool := ((a.length : Int) == (b.length : Int)) && !(findN (neL a b) a.length 0).isSome
def F31 : List AV → Tr AV
  | [.str a, .str b] => .gd (small a.length && small b.length) (.leaf (.bool (alkF a b)))
  | _ => .no
theorem ok31 : SumOK Tryz.prog 31 (ofT F31) ∧ SNat (ofT F31) := by
  refine fn1 (K := [(4, l31)]) (b := b31) (l := l31) g31 Tryz.func31 (by kernel_rfl) (by kernel_rfl) loop31 fun ρ avs k r h => ?_
  unfold F31 at h
  split at h
  · rename_i a b
    obtain ⟨hc, hk⟩ := gd_some h
    simp only [Bool.and_eq_true] at hc
    refine Eq.trans (b := bif (↑a.length : Int) != (↑b.length : Int) then k (AV.bool false) else bif cnt (↑a.length : Int) (0 : Int) a.length && (↑a.length : Int) == (↑b.length : Int) then bif (findN (neL a b) a.length (0 : Nat)).isSome then k (AV.bool false) else k (AV.bool true) else none) (by kernel_rfl) ?_
    rw [← hk, cnt_zero hc.1]
    show _ = k (.bool (((a.length : Int) == (b.length : Int)) && !(findN (neL a b) a.length 0).isSome))
    cases hab : ((a.length : Int) == (b.length : Int))
    · simp [bne, hab]
    · simp only [bne, hab, Bool.not_true, cond_false, Bool.and_true, cond_true, Bool.true_and]
      cases (findN (neL a b) a.length 0).isSome <;> rfl
  · cases h
theorem lowU_inj {x z : UInt8} (h : lowI (x.toNat : Int) = lowI (z.toNat : Int)) : lowU x = lowU z := by unfold lowU; rw [h]
theorem lowI_r {n : Int} (h : 0 ≤ n) (h' : n ≤ 255) : 0 ≤ lowI n ∧ lowI n ≤ 255 := by
  unfold lowI
  cases hr : inR n 65 90
  · exact ⟨h, h'⟩
  · obtain ⟨r0, r1⟩ := inR_spec hr
    show 0 ≤ n + 32 ∧ n + 32 ≤ 255
    omega
theorem lowU_of {x z : UInt8} (h : lowU x = lowU z) : lowI (x.toNat : Int) = lowI (z.toNat : Int) := by
  have hb : ∀ y : UInt8, y.toNat < 256 := fun y => y.toNat_lt
  have r1 := lowI_r (n := (x.toNat : Int)) (by omega) (by have := hb x; omega)
  have r2 := lowI_r (n := (z.toNat : Int)) (by omega) (by have := hb z; omega)
  have h2 := congrArg UInt8.toNat h
  unfold lowU at h2
  rw [UInt8.toNat_ofNat_of_lt' (by show _ < 256; omega), UInt8.toNat_ofNat_of_lt' (by show _ < 256; omega)] at h2
  omega
theorem atI_get {s : List UInt8} {i : Nat} (h : i < s.length) : atI s i = ((s[i]).toNat : Int) := by
  unfold atI
  rw [List.getD_eq_getElem?_getD, List.getElem?_eq_getElem h]
  rfl
theorem alk_eq (a b : List UInt8) : alkF a b = eqF a b := by
  unfold alkF eqF
  cases hab : ((a.length : Int) == (b.length : Int))
  · rfl
  · have hab' : a.length = b.length := Int.ofNat.inj (by simpa using hab)
    rw [Bool.true_and, Bool.true_and]
    have key : (findN (neL a b) a.length 0).isSome = false ↔ lowS a = lowS b := by
      constructor
      · intro h
        cases hf : findN (neL a b) a.length 0 with
        | some q => rw [hf] at h; cases h
        | none =>
          refine List.ext_getElem (by simp [lowS, hab']) fun i h1 h2 => ?_
          simp only [lowS, List.length_map] at h1 h2
          have := findN_none hf i (Nat.zero_le _) h1
          simp only [neL, Bool.not_eq_false', beq_iff_eq, atI_get h1, atI_get h2] at this
          simp only [lowS, List.getElem_map]
          exact lowU_inj this
      · intro h
        cases hf : findN (neL a b) a.length 0 with
        | none => rfl
        | some q =>
          obtain ⟨_, h1, h3, _⟩ := findN_some hf
          have h2 : q < b.length := hab' ▸ h1
          have hq := congrArg (fun l => l[q]?) h
          simp only [lowS, List.getElem?_map, List.getElem?_eq_getElem h1, List.getElem?_eq_getElem h2, Option.map_some, Option.some.injEq] at hq
          have := lowU_of hq
          simp [neL, atI_get h1, atI_get h2, this] at h3
    cases h1 : (findN (neL a b) a.length 0).isSome
    · rw [key.1 h1]; simp
    · cases h2 : (lowS a == lowS b)
      · rfl
      · rw [key.2 (by simpa using h2)] at h1; cases h1
theorem ok31' : SumOK Tryz.prog 31 (ofT F53) ∧ SNat (ofT F53) := by
  have : ofT F31 = ofT F53 := by
    funext ρ avs k
    show (F31 avs).run k = (F53 avs).run k
    unfold F31 F53
    split
    · rename_i a b
      show _ = (Tr.gd _ (Tr.leaf (.bool (eqF a b)))).run k
      rw [alk_eq]
    · rfl
  exact this ▸ ok31
end Go.Proofs.YthdhfmdhjanoaaaGreatDoor


namespace Go.Proofs
open Go.Shelf
def Tryz.lays156_ren : Go.Shelf.Ren := ⟨fun | 156 => 75 | 165 => 94 | 166 => 95 | 169 => 96 | 240 => 110 | 241 => 111 | 276 => 128 | 277 => 129 | n => n, fun | 31 => 30 | 9 => 9 | 3 => 3 | 4 => 4 | 0 => 0 | 20 => 20 | 72 => 122 | 76 => 126 | 70 => 120 | 37 => 23 | 75 => 125 | 127 => 139 | 164 => 156 | 5 => 5 | 80 => 128 | n => n, fun | n => n⟩
theorem Tryz.lays156 : Go.Proofs.Lays.n156 Tryz.prog Tryz.lays156_ren := {
  mixed := by kernel_rfl
  f156 := Tryz.func75.trans (congrArg some (by kernel_rfl))
  f165 := Tryz.func94.trans (congrArg some (by kernel_rfl))
  f166 := Tryz.func95.trans (congrArg some (by kernel_rfl))
  f169 := Tryz.func96.trans (congrArg some (by kernel_rfl))
  f240 := Tryz.func110.trans (congrArg some (by kernel_rfl))
  f241 := Tryz.func111.trans (congrArg some (by kernel_rfl))
  f276 := Tryz.func128.trans (congrArg some (by kernel_rfl))
  f277 := Tryz.func129.trans (congrArg some (by kernel_rfl))
  t0 := Tryz.underlying0
  a0 := Tryz.isAgg0
  z0 := Tryz.sizeOf0
  v0 := Tryz.zeroValue0
  t3 := Tryz.underlying3
  a3 := Tryz.isAgg3
  z3 := Tryz.sizeOf3
  v3 := Tryz.zeroValue3
  t4 := Tryz.underlying4
  a4 := Tryz.isAgg4
  z4 := Tryz.sizeOf4
  v4 := Tryz.zeroValue4
  t9 := Tryz.underlying9
  a9 := Tryz.isAgg9
  z9 := Tryz.sizeOf9
  v9 := Tryz.zeroValue9
  t20 := Tryz.underlying20
  a20 := Tryz.isAgg20
  z20 := Tryz.sizeOf20
  v20 := Tryz.zeroValue20
  t31 := Tryz.underlying30
  a31 := Tryz.isAgg30
  z31 := Tryz.sizeOf30
  v31 := Tryz.zeroValue30
  t37 := Tryz.underlying23
  a37 := Tryz.isAgg23
  z37 := Tryz.sizeOf23
  v37 := Tryz.zeroValue23
  t70 := Tryz.underlying120
  a70 := Tryz.isAgg120
  z70 := Tryz.sizeOf120
  v70 := Tryz.zeroValue120
  t72 := Tryz.underlying122
  a72 := Tryz.isAgg122
  z72 := Tryz.sizeOf122
  v72 := Tryz.zeroValue122
  t75 := Tryz.underlying125
  a75 := Tryz.isAgg125
  z75 := Tryz.sizeOf125
  v75 := Tryz.zeroValue125
  t76 := Tryz.underlying126
  a76 := Tryz.isAgg126
  z76 := Tryz.sizeOf126
  v76 := Tryz.zeroValue126
  t127 := Tryz.underlying139
  a127 := Tryz.isAgg139
  z127 := Tryz.sizeOf139
  v127 := Tryz.zeroValue139
  t164 := Tryz.underlying156
  a164 := Tryz.isAgg156
  z164 := Tryz.sizeOf156
  v164 := Tryz.zeroValue156 }
theorem Tryz.Builder_Extra_156 : Builder.Extra Tryz.prog Tryz.lays156_ren := {
  sizeBuilder := by kernel_rfl
  liesBuilder := by kernel_rfl
  t5 := Tryz.underlying5
  a5 := Tryz.isAgg5
  z5 := Tryz.sizeOf5
  v5 := Tryz.zeroValue5
  infoByte := by kernel_rfl
  cellsByte := by kernel_rfl
  sizeByte := by kernel_rfl
  neB5 := by decide }
open Go.RowKit in
theorem Tryz.strings_Join_none (a : Option Addr) (c : Nat) (sep : ByteArray) (w : World) :
    Calls Tryz.prog 75 #[.slice a 0 c, .string sep] w fun e w' => e = .returned (.string ⟨#[]⟩) ∧ w' = w := Any.strings_Join_none Tryz.lays156 Tryz.Builder_Extra_156 a c sep w
open Go.RowKit in
theorem Tryz.strings_Join (bk o c : Nat) (xs : List ByteArray) (sep : ByteArray) (w : World) (hcells : ∀ (j : Nat) x, xs[j]? = some x → w.cell? ⟨bk, o + j, none⟩ = some (.string x)) (hbk : bk < w.heap.size) (hN : xs.length ≤ 140737488355328) (hcap : xs.length ≤ c) (hlen : (Lib.join (xs.map (·.data.toList)) sep.data.toList).length ≤ 140737488355328) :
    Calls Tryz.prog 75 #[.slice (some ⟨bk, o, none⟩) xs.length c, .string sep] w fun e w' => e = .returned (.string ⟨(Lib.join (xs.map (·.data.toList)) sep.data.toList).toArray⟩) ∧ Below w.heap.size w w' := Any.strings_Join Tryz.lays156 Tryz.Builder_Extra_156 bk o c xs sep w hcells hbk hN hcap hlen
def Tryz.lays119_ren : Go.Shelf.Ren := ⟨fun | 119 => 163 | n => n, fun | 21 => 21 | 4 => 4 | n => n, fun | n => n⟩
theorem Tryz.lays119 : Go.Proofs.Lays.n119 Tryz.prog Tryz.lays119_ren := {
  mixed := by kernel_rfl
  f119 := Tryz.func163.trans (congrArg some (by kernel_rfl))
  t4 := Tryz.underlying4
  a4 := Tryz.isAgg4
  z4 := Tryz.sizeOf4
  v4 := Tryz.zeroValue4
  t21 := Tryz.underlying21
  a21 := Tryz.isAgg21
  z21 := Tryz.sizeOf21
  v21 := Tryz.zeroValue21 }
theorem Tryz.utf8_ValidRune (r : Int) (w : World) :
    Calls Tryz.prog 163 #[.int .i32 r] w fun e w' => e = .returned (.bool (Lib.validRune r)) ∧ w' = w := Any.utf8_ValidRune Tryz.lays119 r w
def Tryz.lays137_ren : Go.Shelf.Ren := ⟨fun | 137 => 162 | 217 => 151 | 266 => 160 | n => n, fun | 9 => 9 | 5 => 5 | 3 => 3 | n => n, fun | n => n⟩
theorem Tryz.lays137 : Go.Proofs.Lays.n137 Tryz.prog Tryz.lays137_ren := {
  mixed := by kernel_rfl
  f137 := Tryz.func162.trans (congrArg some (by kernel_rfl))
  f217 := Tryz.func151.trans (congrArg some (by kernel_rfl))
  f266 := Tryz.func160.trans (congrArg some (by kernel_rfl))
  t3 := Tryz.underlying3
  a3 := Tryz.isAgg3
  z3 := Tryz.sizeOf3
  v3 := Tryz.zeroValue3
  t5 := Tryz.underlying5
  a5 := Tryz.isAgg5
  z5 := Tryz.sizeOf5
  v5 := Tryz.zeroValue5
  t9 := Tryz.underlying9
  a9 := Tryz.isAgg9
  z9 := Tryz.sizeOf9
  v9 := Tryz.zeroValue9 }
open Go.RowKit in
theorem Tryz.strings_IndexByte (s : ByteArray) (c : Int) (w : World) :
    Calls Tryz.prog 162 #[.string s, .int .u8 c] w fun e w' => e = .returned (.int .i64 (Lib.indexByte s.data.toList c.toNat.toUInt8)) ∧ w' = w := Any.strings_IndexByte Tryz.lays137 s c w
def Tryz.lays103_ren : Go.Shelf.Ren := ⟨fun | 103 => 86 | 210 => 109 | 206 => 120 | n => n, fun | 9 => 9 | 4 => 4 | 24 => 81 | 3 => 3 | n => n, fun | n => n⟩
theorem Tryz.lays103 : Go.Proofs.Lays.n103 Tryz.prog Tryz.lays103_ren := {
  mixed := by kernel_rfl
  f103 := Tryz.func86.trans (congrArg some (by kernel_rfl))
  f206 := Tryz.func120.trans (congrArg some (by kernel_rfl))
  f210 := Tryz.func109.trans (congrArg some (by kernel_rfl))
  t3 := Tryz.underlying3
  a3 := Tryz.isAgg3
  z3 := Tryz.sizeOf3
  v3 := Tryz.zeroValue3
  t4 := Tryz.underlying4
  a4 := Tryz.isAgg4
  z4 := Tryz.sizeOf4
  v4 := Tryz.zeroValue4
  t9 := Tryz.underlying9
  a9 := Tryz.isAgg9
  z9 := Tryz.sizeOf9
  v9 := Tryz.zeroValue9
  t24 := Tryz.underlying81
  a24 := Tryz.isAgg81
  z24 := Tryz.sizeOf81
  v24 := Tryz.zeroValue81 }
open Go.RowKit in
theorem Tryz.strings_CutPrefix (s p : ByteArray) (w : World) :
    Calls Tryz.prog 86 #[.string s, .string p] w fun e w' => e = .returned (.tuple #[.string ⟨(Lib.trimPrefix s.data.toList p.data.toList).toArray⟩, .bool (Lib.hasPrefix s.data.toList p.data.toList)]) ∧ w' = w := Any.strings_CutPrefix Tryz.lays103 s p w
def Tryz.lays171_ren : Go.Shelf.Ren := ⟨fun | 171 => 65 | 243 => 85 | 246 => 108 | 283 => 124 | 284 => 125 | 285 => 126 | 286 => 127 | 129 => 143 | 317 => 142 | 318 => 144 | 319 => 145 | 320 => 146 | 337 => 154 | 338 => 155 | n => n, fun | 3 => 3 | 9 => 9 | 2 => 2 | 4 => 4 | 171 => 151 | 0 => 0 | 53 => 22 | 37 => 23 | 5 => 5 | 173 => 154 | 212 => 166 | 51 => 144 | 20 => 20 | 213 => 167 | 46 => 78 | 232 => 182 | 233 => 183 | n => n, fun | 17 => 1 | 18 => 4 | 19 => 5 | n => n⟩
theorem Tryz.lays171 : Go.Proofs.Lays.n171 Tryz.prog Tryz.lays171_ren := {
  mixed := by kernel_rfl
  f129 := Tryz.func143.trans (congrArg some (by kernel_rfl))
  f171 := Tryz.func65.trans (congrArg some (by kernel_rfl))
  f243 := Tryz.func85.trans (congrArg some (by kernel_rfl))
  f246 := Tryz.func108.trans (congrArg some (by kernel_rfl))
  f283 := Tryz.func124.trans (congrArg some (by kernel_rfl))
  f284 := Tryz.func125.trans (congrArg some (by kernel_rfl))
  f285 := Tryz.func126.trans (congrArg some (by kernel_rfl))
  f286 := Tryz.func127.trans (congrArg some (by kernel_rfl))
  f317 := Tryz.func142.trans (congrArg some (by kernel_rfl))
  f318 := Tryz.func144.trans (congrArg some (by kernel_rfl))
  f319 := Tryz.func145.trans (congrArg some (by kernel_rfl))
  f320 := Tryz.func146.trans (congrArg some (by kernel_rfl))
  f337 := Tryz.func154.trans (congrArg some (by kernel_rfl))
  f338 := Tryz.func155.trans (congrArg some (by kernel_rfl))
  t0 := Tryz.underlying0
  a0 := Tryz.isAgg0
  z0 := Tryz.sizeOf0
  v0 := Tryz.zeroValue0
  t2 := Tryz.underlying2
  a2 := Tryz.isAgg2
  z2 := Tryz.sizeOf2
  v2 := Tryz.zeroValue2
  t3 := Tryz.underlying3
  a3 := Tryz.isAgg3
  z3 := Tryz.sizeOf3
  v3 := Tryz.zeroValue3
  t4 := Tryz.underlying4
  a4 := Tryz.isAgg4
  z4 := Tryz.sizeOf4
  v4 := Tryz.zeroValue4
  t5 := Tryz.underlying5
  a5 := Tryz.isAgg5
  z5 := Tryz.sizeOf5
  v5 := Tryz.zeroValue5
  t9 := Tryz.underlying9
  a9 := Tryz.isAgg9
  z9 := Tryz.sizeOf9
  v9 := Tryz.zeroValue9
  t20 := Tryz.underlying20
  a20 := Tryz.isAgg20
  z20 := Tryz.sizeOf20
  v20 := Tryz.zeroValue20
  t37 := Tryz.underlying23
  a37 := Tryz.isAgg23
  z37 := Tryz.sizeOf23
  v37 := Tryz.zeroValue23
  t46 := Tryz.underlying78
  a46 := Tryz.isAgg78
  z46 := Tryz.sizeOf78
  v46 := Tryz.zeroValue78
  t51 := Tryz.underlying144
  a51 := Tryz.isAgg144
  z51 := Tryz.sizeOf144
  v51 := Tryz.zeroValue144
  t53 := Tryz.underlying22
  a53 := Tryz.isAgg22
  z53 := Tryz.sizeOf22
  v53 := Tryz.zeroValue22
  t171 := Tryz.underlying151
  a171 := Tryz.isAgg151
  z171 := Tryz.sizeOf151
  v171 := Tryz.zeroValue151
  t173 := Tryz.underlying154
  a173 := Tryz.isAgg154
  z173 := Tryz.sizeOf154
  v173 := Tryz.zeroValue154
  t212 := Tryz.underlying166
  a212 := Tryz.isAgg166
  z212 := Tryz.sizeOf166
  v212 := Tryz.zeroValue166
  t213 := Tryz.underlying167
  a213 := Tryz.isAgg167
  z213 := Tryz.sizeOf167
  t232 := Tryz.underlying182
  a232 := Tryz.isAgg182
  z232 := Tryz.sizeOf182
  v232 := Tryz.zeroValue182
  t233 := Tryz.underlying183
  a233 := Tryz.isAgg183
  z233 := Tryz.sizeOf183
  v233 := Tryz.zeroValue183
  g17 := by kernel_rfl
  g18 := by kernel_rfl
  g19 := by kernel_rfl }
open Go.RowKit Go.Sort Go.Lib in
theorem Tryz.strconv_Itoa_small (i : Nat) (hi : i < 100) (w : World) :
    Calls Tryz.prog 65 #[.int .i64 i] w fun e w' => e = .returned (.string ⟨(Lib.decDigits i).toArray⟩) ∧ w' = w := Any.strconv_Itoa_small Tryz.lays171 i hi w
def Tryz.lays102_ren : Go.Shelf.Ren := ⟨fun | 102 => 103 | 209 => 117 | 207 => 137 | n => n, fun | 9 => 9 | 4 => 4 | 3 => 3 | n => n, fun | n => n⟩
theorem Tryz.lays102 : Go.Proofs.Lays.n102 Tryz.prog Tryz.lays102_ren := {
  mixed := by kernel_rfl
  f102 := Tryz.func103.trans (congrArg some (by kernel_rfl))
  f207 := Tryz.func137.trans (congrArg some (by kernel_rfl))
  f209 := Tryz.func117.trans (congrArg some (by kernel_rfl))
  t3 := Tryz.underlying3
  a3 := Tryz.isAgg3
  z3 := Tryz.sizeOf3
  v3 := Tryz.zeroValue3
  t4 := Tryz.underlying4
  a4 := Tryz.isAgg4
  z4 := Tryz.sizeOf4
  v4 := Tryz.zeroValue4
  t9 := Tryz.underlying9
  a9 := Tryz.isAgg9
  z9 := Tryz.sizeOf9
  v9 := Tryz.zeroValue9 }
open Go.RowKit Go.Lib in
theorem Tryz.strings_TrimSuffix (s p : ByteArray) (w : World) (hs : s.size ≤ 9223372036854775807) :
    Calls Tryz.prog 103 #[.string s, .string p] w fun e w' => e = .returned (.string ⟨(Lib.trimSuffix s.data.toList p.data.toList).toArray⟩) ∧ w' = w := Any.strings_TrimSuffix Tryz.lays102 s p w hs
def Tryz.lays146_ren : Go.Shelf.Ren := ⟨fun | 146 => 84 | 221 => 107 | 268 => 121 | 138 => 122 | 143 => 123 | 195 => 138 | 197 => 139 | 218 => 140 | 219 => 141 | 260 => 150 | 217 => 151 | 225 => 152 | 224 => 135 | 267 => 153 | 266 => 160 | 314 => 161 | n => n, fun | 9 => 9 | 31 => 30 | 3 => 3 | 4 => 4 | 0 => 0 | 105 => 141 | 21 => 21 | 5 => 5 | 46 => 78 | 119 => 170 | 139 => 173 | 138 => 172 | 146 => 145 | 51 => 144 | n => n, fun | 1 => 0 | 3 => 2 | 4 => 3 | n => n⟩
theorem Tryz.lays146 : Go.Proofs.Lays.n146 Tryz.prog Tryz.lays146_ren := {
  mixed := by kernel_rfl
  f138 := Tryz.func122.trans (congrArg some (by kernel_rfl))
  f143 := Tryz.func123.trans (congrArg some (by kernel_rfl))
  f146 := Tryz.func84.trans (congrArg some (by kernel_rfl))
  f195 := Tryz.func138.trans (congrArg some (by kernel_rfl))
  f197 := Tryz.func139.trans (congrArg some (by kernel_rfl))
  f217 := Tryz.func151.trans (congrArg some (by kernel_rfl))
  f218 := Tryz.func140.trans (congrArg some (by kernel_rfl))
  f219 := Tryz.func141.trans (congrArg some (by kernel_rfl))
  f221 := Tryz.func107.trans (congrArg some (by kernel_rfl))
  f224 := Tryz.func135.trans (congrArg some (by kernel_rfl))
  f225 := Tryz.func152.trans (congrArg some (by kernel_rfl))
  f260 := Tryz.func150.trans (congrArg some (by kernel_rfl))
  f266 := Tryz.func160.trans (congrArg some (by kernel_rfl))
  f267 := Tryz.func153.trans (congrArg some (by kernel_rfl))
  f268 := Tryz.func121.trans (congrArg some (by kernel_rfl))
  f314 := Tryz.func161.trans (congrArg some (by kernel_rfl))
  t0 := Tryz.underlying0
  a0 := Tryz.isAgg0
  z0 := Tryz.sizeOf0
  v0 := Tryz.zeroValue0
  t3 := Tryz.underlying3
  a3 := Tryz.isAgg3
  z3 := Tryz.sizeOf3
  v3 := Tryz.zeroValue3
  t4 := Tryz.underlying4
  a4 := Tryz.isAgg4
  z4 := Tryz.sizeOf4
  v4 := Tryz.zeroValue4
  t5 := Tryz.underlying5
  a5 := Tryz.isAgg5
  z5 := Tryz.sizeOf5
  v5 := Tryz.zeroValue5
  t9 := Tryz.underlying9
  a9 := Tryz.isAgg9
  z9 := Tryz.sizeOf9
  v9 := Tryz.zeroValue9
  t21 := Tryz.underlying21
  a21 := Tryz.isAgg21
  z21 := Tryz.sizeOf21
  v21 := Tryz.zeroValue21
  t31 := Tryz.underlying30
  a31 := Tryz.isAgg30
  z31 := Tryz.sizeOf30
  v31 := Tryz.zeroValue30
  t46 := Tryz.underlying78
  a46 := Tryz.isAgg78
  z46 := Tryz.sizeOf78
  v46 := Tryz.zeroValue78
  t51 := Tryz.underlying144
  a51 := Tryz.isAgg144
  z51 := Tryz.sizeOf144
  v51 := Tryz.zeroValue144
  t105 := Tryz.underlying141
  a105 := Tryz.isAgg141
  z105 := Tryz.sizeOf141
  v105 := Tryz.zeroValue141
  t119 := Tryz.underlying170
  a119 := Tryz.isAgg170
  z119 := Tryz.sizeOf170
  t138 := Tryz.underlying172
  a138 := Tryz.isAgg172
  z138 := Tryz.sizeOf172
  v138 := Tryz.zeroValue172
  t139 := Tryz.underlying173
  a139 := Tryz.isAgg173
  z139 := Tryz.sizeOf173
  v139 := Tryz.zeroValue173
  t146 := Tryz.underlying145
  a146 := Tryz.isAgg145
  z146 := Tryz.sizeOf145
  v146 := Tryz.zeroValue145
  g1 := by kernel_rfl
  g3 := by kernel_rfl
  g4 := by kernel_rfl }
open Go.RowKit Go.Lib in
theorem Tryz.strings_Split (s sep : ByteArray) (m : Int) (w : World) (hs : s.size < 4294967281) (hm : w.cell? ⟨0, 0, none⟩ = some (.int .i64 m)) (h1 : 1 ≤ sep.size) :
    Calls Tryz.prog 84 #[.string s, .string sep] w fun e w' =>
      e = .returned (.slice (some ⟨w.heap.size, 0, none⟩) (Lib.countB s sep + 1) (Lib.countB s sep + 1)) ∧ w' = w.alloc (.cells ((Lib.splitB sep 0 (Lib.countB s sep) s).map Value.string).toArray 9) := Any.strings_Split Tryz.lays146 (by kernel_rfl) s sep m w hs hm h1
def Tryz.lays152_ren : Go.Shelf.Ren := ⟨fun | 152 => 156 | 137 => 162 | 119 => 163 | 224 => 135 | 225 => 152 | 217 => 151 | 266 => 160 | n => n, fun | 9 => 9 | 21 => 21 | 3 => 3 | 4 => 4 | 5 => 5 | 0 => 0 | 46 => 78 | n => n, fun | n => n⟩
theorem Tryz.lays152 : Go.Proofs.Lays.n152 Tryz.prog Tryz.lays152_ren := {
  mixed := by kernel_rfl
  f119 := Tryz.func163.trans (congrArg some (by kernel_rfl))
  f137 := Tryz.func162.trans (congrArg some (by kernel_rfl))
  f152 := Tryz.func156.trans (congrArg some (by kernel_rfl))
  f217 := Tryz.func151.trans (congrArg some (by kernel_rfl))
  f224 := Tryz.func135.trans (congrArg some (by kernel_rfl))
  f225 := Tryz.func152.trans (congrArg some (by kernel_rfl))
  f266 := Tryz.func160.trans (congrArg some (by kernel_rfl))
  t0 := Tryz.underlying0
  a0 := Tryz.isAgg0
  z0 := Tryz.sizeOf0
  v0 := Tryz.zeroValue0
  t3 := Tryz.underlying3
  a3 := Tryz.isAgg3
  z3 := Tryz.sizeOf3
  v3 := Tryz.zeroValue3
  t4 := Tryz.underlying4
  a4 := Tryz.isAgg4
  z4 := Tryz.sizeOf4
  v4 := Tryz.zeroValue4
  t5 := Tryz.underlying5
  a5 := Tryz.isAgg5
  z5 := Tryz.sizeOf5
  v5 := Tryz.zeroValue5
  t9 := Tryz.underlying9
  a9 := Tryz.isAgg9
  z9 := Tryz.sizeOf9
  v9 := Tryz.zeroValue9
  t21 := Tryz.underlying21
  a21 := Tryz.isAgg21
  z21 := Tryz.sizeOf21
  v21 := Tryz.zeroValue21
  t46 := Tryz.underlying78
  a46 := Tryz.isAgg78
  z46 := Tryz.sizeOf78
  v46 := Tryz.zeroValue78 }
open Go.RowKit Go.Lib in
theorem Tryz.strings_IndexRune_ascii (s : ByteArray) (r : Int) (w : World) (h0 : 0 ≤ r) (h1 : r < 128) :
    Calls Tryz.prog 156 #[.string s, .int .i32 r] w fun e w' => e = .returned (.int .i64 (Lib.indexByte s.data.toList r.toNat.toUInt8)) ∧ w' = w := Any.strings_IndexRune_ascii Tryz.lays152 s r w h0 h1
def Tryz.lays226_ren : Go.Shelf.Ren := ⟨fun | 226 => 157 | n => n, fun | 3 => 3 | 4 => 4 | n => n, fun | n => n⟩
theorem Tryz.lays226 : Go.Proofs.Lays.n226 Tryz.prog Tryz.lays226_ren := {
  mixed := by kernel_rfl
  f226 := Tryz.func157.trans (congrArg some (by kernel_rfl))
  t3 := Tryz.underlying3
  a3 := Tryz.isAgg3
  z3 := Tryz.sizeOf3
  v3 := Tryz.zeroValue3
  t4 := Tryz.underlying4
  a4 := Tryz.isAgg4
  z4 := Tryz.sizeOf4
  v4 := Tryz.zeroValue4 }
open Go.RowKit Go.Lib in
theorem Tryz.strings_shouldUseASCIISet (n : Int) (w : World) :
    Calls Tryz.prog 157 #[.int .i64 n] w fun e w' => e = .returned (.bool (decide (8 < n))) ∧ w' = w := Any.strings_shouldUseASCIISet Tryz.lays226 n w
def Tryz.lays153_ren : Go.Shelf.Ren := ⟨fun | 153 => 147 | 152 => 156 | 226 => 157 | 227 => 158 | 228 => 159 | 137 => 162 | 119 => 163 | 224 => 135 | 225 => 152 | 217 => 151 | 266 => 160 | n => n, fun | 9 => 9 | 3 => 3 | 4 => 4 | 5 => 5 | 21 => 21 | 117 => 179 | 116 => 178 | 0 => 0 | 46 => 78 | 124 => 185 | n => n, fun | n => n⟩
theorem Tryz.lays153 : Go.Proofs.Lays.n153 Tryz.prog Tryz.lays153_ren := {
  mixed := by kernel_rfl
  f119 := Tryz.func163.trans (congrArg some (by kernel_rfl))
  f137 := Tryz.func162.trans (congrArg some (by kernel_rfl))
  f152 := Tryz.func156.trans (congrArg some (by kernel_rfl))
  f153 := Tryz.func147.trans (congrArg some (by kernel_rfl))
  f217 := Tryz.func151.trans (congrArg some (by kernel_rfl))
  f224 := Tryz.func135.trans (congrArg some (by kernel_rfl))
  f225 := Tryz.func152.trans (congrArg some (by kernel_rfl))
  f226 := Tryz.func157.trans (congrArg some (by kernel_rfl))
  f227 := Tryz.func158.trans (congrArg some (by kernel_rfl))
  f228 := Tryz.func159.trans (congrArg some (by kernel_rfl))
  f266 := Tryz.func160.trans (congrArg some (by kernel_rfl))
  t0 := Tryz.underlying0
  a0 := Tryz.isAgg0
  z0 := Tryz.sizeOf0
  v0 := Tryz.zeroValue0
  t3 := Tryz.underlying3
  a3 := Tryz.isAgg3
  z3 := Tryz.sizeOf3
  v3 := Tryz.zeroValue3
  t4 := Tryz.underlying4
  a4 := Tryz.isAgg4
  z4 := Tryz.sizeOf4
  v4 := Tryz.zeroValue4
  t5 := Tryz.underlying5
  a5 := Tryz.isAgg5
  z5 := Tryz.sizeOf5
  v5 := Tryz.zeroValue5
  t9 := Tryz.underlying9
  a9 := Tryz.isAgg9
  z9 := Tryz.sizeOf9
  v9 := Tryz.zeroValue9
  t21 := Tryz.underlying21
  a21 := Tryz.isAgg21
  z21 := Tryz.sizeOf21
  v21 := Tryz.zeroValue21
  t46 := Tryz.underlying78
  a46 := Tryz.isAgg78
  z46 := Tryz.sizeOf78
  v46 := Tryz.zeroValue78
  t116 := Tryz.underlying178
  a116 := Tryz.isAgg178
  z116 := Tryz.sizeOf178
  t117 := Tryz.underlying179
  a117 := Tryz.isAgg179
  z117 := Tryz.sizeOf179
  v117 := Tryz.zeroValue179
  t124 := Tryz.underlying185
  a124 := Tryz.isAgg185
  z124 := Tryz.sizeOf185
  v124 := Tryz.zeroValue185 }
open Go.RowKit Go.Lib in
theorem Tryz.strings_IndexAny_none (s chars : ByteArray) (w : World) (h0 : chars.size = 0) :
    Calls Tryz.prog 147 #[.string s, .string chars] w fun e w' => e = .returned (.int .i64 (Lib.indexAny s.data.toList chars.data.toList)) ∧ w' = w := Any.strings_IndexAny_none Tryz.lays153 s chars w h0
open Go.RowKit Go.Lib in
theorem Tryz.strings_IndexAny_short (s chars : ByteArray) (w : World) (h2 : 2 ≤ chars.size) (h8 : s.size ≤ 8) (hascii : ∀ (j : Nat) b, s.data.toList[j]? = some b → b.toNat < 128) :
    Calls Tryz.prog 147 #[.string s, .string chars] w fun e w' => e = .returned (.int .i64 (Lib.indexAny s.data.toList chars.data.toList)) ∧ ∃ pos, w' = w.iter s pos := Any.strings_IndexAny_short Tryz.lays153 s chars w h2 h8 hascii
open Go.RowKit Go.Lib in
theorem Tryz.strings_IndexAny_long (hv116 : ∀ w, (zeroValue 178).run Tryz.prog w = .ok (.agg (Array.replicate 256 (.bool false))) w) (s chars : ByteArray) (w : World) (h2 : 2 ≤ chars.size) (h8 : 8 < s.size) (hs : s.size < 4294967281) (hcs : chars.size < 4294967281) (hascii : ∀ (j : Nat) b, chars.data.toList[j]? = some b → b.toNat < 128) :
    Calls Tryz.prog 147 #[.string s, .string chars] w fun e w' => e = .returned (.int .i64 (Lib.indexAny s.data.toList chars.data.toList)) ∧ w' = ((w.alloc (.cells (Lib.setCells chars.data.toList) 178)).alloc (.cells (Lib.setCells chars.data.toList) 178)) := Any.strings_IndexAny_long Tryz.lays153 hv116 (by kernel_rfl) s chars w h2 h8 hs hcs hascii
def Tryz.lays105_ren : Go.Shelf.Ren := ⟨fun | 105 => 83 | 212 => 104 | 99 => 105 | 165 => 94 | 166 => 95 | 170 => 106 | 169 => 96 | 263 => 118 | 264 => 119 | 206 => 120 | 240 => 110 | 241 => 111 | 276 => 128 | 277 => 129 | n => n, fun | 9 => 9 | 3 => 3 | 4 => 4 | 20 => 20 | 0 => 0 | 46 => 78 | 109 => 134 | 5 => 5 | 72 => 122 | 76 => 126 | 51 => 144 | 146 => 145 | 53 => 22 | 148 => 147 | 70 => 120 | 37 => 23 | 75 => 125 | 127 => 139 | 164 => 156 | 80 => 128 | n => n, fun | n => n⟩
theorem Tryz.lays105 : Go.Proofs.Lays.n105 Tryz.prog Tryz.lays105_ren := {
  mixed := by kernel_rfl
  f99 := Tryz.func105.trans (congrArg some (by kernel_rfl))
  f105 := Tryz.func83.trans (congrArg some (by kernel_rfl))
  f165 := Tryz.func94.trans (congrArg some (by kernel_rfl))
  f166 := Tryz.func95.trans (congrArg some (by kernel_rfl))
  f169 := Tryz.func96.trans (congrArg some (by kernel_rfl))
  f170 := Tryz.func106.trans (congrArg some (by kernel_rfl))
  f206 := Tryz.func120.trans (congrArg some (by kernel_rfl))
  f212 := Tryz.func104.trans (congrArg some (by kernel_rfl))
  f240 := Tryz.func110.trans (congrArg some (by kernel_rfl))
  f241 := Tryz.func111.trans (congrArg some (by kernel_rfl))
  f263 := Tryz.func118.trans (congrArg some (by kernel_rfl))
  f264 := Tryz.func119.trans (congrArg some (by kernel_rfl))
  f276 := Tryz.func128.trans (congrArg some (by kernel_rfl))
  f277 := Tryz.func129.trans (congrArg some (by kernel_rfl))
  t0 := Tryz.underlying0
  a0 := Tryz.isAgg0
  z0 := Tryz.sizeOf0
  v0 := Tryz.zeroValue0
  t3 := Tryz.underlying3
  a3 := Tryz.isAgg3
  z3 := Tryz.sizeOf3
  v3 := Tryz.zeroValue3
  t4 := Tryz.underlying4
  a4 := Tryz.isAgg4
  z4 := Tryz.sizeOf4
  v4 := Tryz.zeroValue4
  t5 := Tryz.underlying5
  a5 := Tryz.isAgg5
  z5 := Tryz.sizeOf5
  v5 := Tryz.zeroValue5
  t9 := Tryz.underlying9
  a9 := Tryz.isAgg9
  z9 := Tryz.sizeOf9
  v9 := Tryz.zeroValue9
  t20 := Tryz.underlying20
  a20 := Tryz.isAgg20
  z20 := Tryz.sizeOf20
  v20 := Tryz.zeroValue20
  t37 := Tryz.underlying23
  a37 := Tryz.isAgg23
  z37 := Tryz.sizeOf23
  v37 := Tryz.zeroValue23
  t46 := Tryz.underlying78
  a46 := Tryz.isAgg78
  z46 := Tryz.sizeOf78
  v46 := Tryz.zeroValue78
  t51 := Tryz.underlying144
  a51 := Tryz.isAgg144
  z51 := Tryz.sizeOf144
  v51 := Tryz.zeroValue144
  t53 := Tryz.underlying22
  a53 := Tryz.isAgg22
  z53 := Tryz.sizeOf22
  v53 := Tryz.zeroValue22
  t70 := Tryz.underlying120
  a70 := Tryz.isAgg120
  z70 := Tryz.sizeOf120
  v70 := Tryz.zeroValue120
  t72 := Tryz.underlying122
  a72 := Tryz.isAgg122
  z72 := Tryz.sizeOf122
  v72 := Tryz.zeroValue122
  t75 := Tryz.underlying125
  a75 := Tryz.isAgg125
  z75 := Tryz.sizeOf125
  v75 := Tryz.zeroValue125
  t76 := Tryz.underlying126
  a76 := Tryz.isAgg126
  z76 := Tryz.sizeOf126
  v76 := Tryz.zeroValue126
  t109 := Tryz.underlying134
  a109 := Tryz.isAgg134
  z109 := Tryz.sizeOf134
  v109 := Tryz.zeroValue134
  t127 := Tryz.underlying139
  a127 := Tryz.isAgg139
  z127 := Tryz.sizeOf139
  v127 := Tryz.zeroValue139
  t146 := Tryz.underlying145
  a146 := Tryz.isAgg145
  z146 := Tryz.sizeOf145
  v146 := Tryz.zeroValue145
  t148 := Tryz.underlying147
  a148 := Tryz.isAgg147
  z148 := Tryz.sizeOf147
  v148 := Tryz.zeroValue147
  t164 := Tryz.underlying156
  a164 := Tryz.isAgg156
  z164 := Tryz.sizeOf156
  v164 := Tryz.zeroValue156 }
theorem Tryz.Builder_Extra_105 : Builder.Extra Tryz.prog Tryz.lays105_ren := {
  sizeBuilder := by kernel_rfl
  liesBuilder := by kernel_rfl
  t5 := Tryz.underlying5
  a5 := Tryz.isAgg5
  z5 := Tryz.sizeOf5
  v5 := Tryz.zeroValue5
  infoByte := by kernel_rfl
  cellsByte := by kernel_rfl
  sizeByte := by kernel_rfl
  neB5 := by decide }
open Go.RowKit Go.Lib in
theorem Tryz.strings_Repeat (s : ByteArray) (c : Nat) (w : World) (hc : c ≤ 9223372036854775807) (hlen : s.size * c ≤ 140737488355328) :
    Calls Tryz.prog 83 #[.string s, .int .i64 c] w fun e w' => e = .returned (.string ⟨(Lib.repeatL s.data.toList c).toArray⟩) ∧ Below w.heap.size w w' := Any.strings_Repeat Tryz.lays105 Tryz.Builder_Extra_105 s c w hc hlen
def Tryz.lays185_ren : Go.Shelf.Ren := ⟨fun | 185 => 116 | 187 => 132 | 115 => 133 | 253 => 134 | 224 => 135 | 254 => 136 | 255 => 148 | 291 => 149 | n => n, fun | 37 => 23 | 3 => 3 | 4 => 4 | 0 => 0 | 5 => 5 | 46 => 78 | 9 => 9 | 146 => 145 | 51 => 144 | n => n, fun | 1 => 0 | n => n⟩
theorem Tryz.lays185 : Go.Proofs.Lays.n185 Tryz.prog Tryz.lays185_ren := {
  mixed := by kernel_rfl
  f115 := Tryz.func133.trans (congrArg some (by kernel_rfl))
  f185 := Tryz.func116.trans (congrArg some (by kernel_rfl))
  f187 := Tryz.func132.trans (congrArg some (by kernel_rfl))
  f224 := Tryz.func135.trans (congrArg some (by kernel_rfl))
  f253 := Tryz.func134.trans (congrArg some (by kernel_rfl))
  f254 := Tryz.func136.trans (congrArg some (by kernel_rfl))
  f255 := Tryz.func148.trans (congrArg some (by kernel_rfl))
  f291 := Tryz.func149.trans (congrArg some (by kernel_rfl))
  t0 := Tryz.underlying0
  a0 := Tryz.isAgg0
  z0 := Tryz.sizeOf0
  v0 := Tryz.zeroValue0
  t3 := Tryz.underlying3
  a3 := Tryz.isAgg3
  z3 := Tryz.sizeOf3
  v3 := Tryz.zeroValue3
  t4 := Tryz.underlying4
  a4 := Tryz.isAgg4
  z4 := Tryz.sizeOf4
  v4 := Tryz.zeroValue4
  t5 := Tryz.underlying5
  a5 := Tryz.isAgg5
  z5 := Tryz.sizeOf5
  v5 := Tryz.zeroValue5
  t9 := Tryz.underlying9
  a9 := Tryz.isAgg9
  z9 := Tryz.sizeOf9
  v9 := Tryz.zeroValue9
  t37 := Tryz.underlying23
  a37 := Tryz.isAgg23
  z37 := Tryz.sizeOf23
  v37 := Tryz.zeroValue23
  t46 := Tryz.underlying78
  a46 := Tryz.isAgg78
  z46 := Tryz.sizeOf78
  v46 := Tryz.zeroValue78
  t51 := Tryz.underlying144
  a51 := Tryz.isAgg144
  z51 := Tryz.sizeOf144
  v51 := Tryz.zeroValue144
  t146 := Tryz.underlying145
  a146 := Tryz.isAgg145
  z146 := Tryz.sizeOf145
  v146 := Tryz.zeroValue145
  g1 := by kernel_rfl }
open Go.RowKit Go.Lib in
theorem Tryz.bytes_Index_longer (p q : Option Addr) (n c m d : Nat) (w : World) (h2 : 2 ≤ m) (hnm : n < m) (hm : m ≤ 9223372036854775807) :
    Calls Tryz.prog 116 #[.slice p n c, .slice q m d] w fun e w' => e = .returned (.int .i64 (-1)) ∧ w' = w := Any.bytes_Index_longer Tryz.lays185 p q n c m d w h2 hnm hm
open Go.Proofs Go.RowKit Go.Lib in
theorem Tryz.bytes_Index_at (a1 a2 : Addr) (n c1 k c2 : Nat) (xs ys : List Int) (m : Int) (w : World) (hx : xs.length = n) (hy : ys.length = k) (hr1 : ∀ x ∈ xs, 0 ≤ x ∧ x < 256) (hr2 : ∀ y ∈ ys, 0 ≤ y ∧ y < 256) (hc1 : ∀ i, i < n → w.cell? (a1.add i) = some (.int .u8 (xs.getD i 0))) (hc2 : ∀ i, i < k → w.cell? (a2.add i) = some (.int .u8 (ys.getD i 0))) (hcap : n ≤ c1) (hs : n < 4294967281) (hk : k ≤ 9223372036854775807) (hm : w.cell? ⟨0, 0, none⟩ = some (.int .i64 m)) :
    Calls Tryz.prog 116 #[.slice (some a1) n c1, .slice (some a2) k c2] w fun e w' => e = .returned (.int .i64 (Lib.index (Lib.bytesOf xs) (Lib.bytesOf ys))) ∧ ∃ q, w' = w.drewN q := Any.bytes_Index_at Tryz.lays185 a1 a2 n c1 k c2 xs ys m w hx hy hr1 hr2 hc1 hc2 hcap hs hk hm
open Go.Proofs Go.RowKit Go.Lib in
theorem Tryz.bytes_Index_nil (p2 : Option Addr) (k c2 : Nat) (w : World) (hk : k ≤ 9223372036854775807) (h1 : k = 1 → ∃ b2 o2 cv, p2 = some ⟨b2, o2, none⟩ ∧ w.cell? ⟨b2, o2, none⟩ = some (.int .u8 cv)) :
    Calls Tryz.prog 116 #[.slice none 0 0, .slice p2 k c2] w fun e w' => e = .returned (.int .i64 (if k = 0 then 0 else -1)) ∧ w' = w := Any.bytes_Index_nil Tryz.lays185 p2 k c2 w hk h1
end Go.Proofs


namespace Go.Proofs.YthdhfmdhjanoaaaGreatDoor
open Go.Ev Go.RowKit
theorem sum_flat {f : Nat} (hb : hasBody Tryz.prog f = true) {p : List AV → Tr AV}
    (h : ∀ (ρ : Type) (w : World) (S : Nat → Prop) (avs : List AV) (args : List Value) (k : AV → Option ρ) (r : ρ), Facts w → (∀ b, S b → b < w.heap.size) → VRels w S nob avs args → (p avs).run k = some r →
      ∃ u v, k v = some r ∧ v.flat = true ∧ VRel w S nob v u ∧ Calls Tryz.prog f args.toArray w (fun e w' => e = .returned u ∧ Below w.heap.size w w')) : SumOK Tryz.prog f (ofT p) ∧ SNat (ofT p) := by
  refine ⟨fun ρ w S avs args k r hS hv hk => ?_, snat_ofT p⟩
  obtain ⟨u, v, hk', hf, hv', hc⟩ := h ρ w S avs args k r (hS.2 w (Kept.refl _ _)) hS.1 hv hk
  refine .inl ⟨hb, hc.mono fun e w' hq => ?_⟩
  exact ⟨u, v, fun _ => False, hq.1, hk', hq.2, fun _ h => h.elim, fun _ h => h.elim, flat_free hv' hf⟩
theorem spot_none {w : World} {a : Addr} {v : Value} (h : w.cell? a = some v) : a.spot = none := by
  unfold World.cell? at h
  split at h
  · split at h
    · cases h
    · rename_i hs; simpa using hs
  · cases h
theorem Addr.eta {a : Addr} (h : a.spot = none) : a = ⟨a.block, a.off, none⟩ := by
  cases a; simp_all
def F86 : List AV → Tr AV
  | [.str s, .str p] => .leaf (.tup [.str (Lib.trimPrefix s p), .bool (Lib.hasPrefix s p)])
  | _ => .no
theorem ok86 : SumOK Tryz.prog 86 (ofT F86) ∧ SNat (ofT F86) := by
  refine sum_flat (by kernel_rfl) fun ρ w S avs args k r hF hS hv h => ?_
  unfold F86 at h
  split at h
  · rename_i s p
    obtain ⟨v, vs, rfl, h1, hv⟩ := hv.inv
    obtain ⟨u, us, rfl, h2, hv⟩ := hv.inv
    obtain rfl := hv.inv_nil
    rw [h1.str_inv, h2.str_inv]
    refine ⟨_, _, h, rfl, .tup _ [.str (Lib.trimPrefix s p), .bool (Lib.hasPrefix s p)] [.string ⟨(Lib.trimPrefix s p).toArray⟩, .bool (Lib.hasPrefix s p)] rfl fun j c u hc hu => ?_, (Tryz.strings_CutPrefix ⟨s.toArray⟩ ⟨p.toArray⟩ w).mono fun e w' hq => ⟨by simpa using hq.1, hq.2 ▸ Below.refl _ _⟩⟩
    match j with
    | 0 => simp at hc hu; subst hc hu; exact .str _ _
    | 1 => simp at hc hu; subst hc hu; exact .bool _ _
    | j + 2 => simp at hc
  · cases h
def F103 : List AV → Tr AV
  | [.str s, .str p] => .gd (small s.length) (.leaf (.str (Lib.trimSuffix s p)))
  | _ => .no
theorem ok103 : SumOK Tryz.prog 103 (ofT F103) ∧ SNat (ofT F103) := by
  refine sum_flat (by kernel_rfl) fun ρ w S avs args k r hF hS hv h => ?_
  unfold F103 at h
  split at h
  · rename_i s p
    obtain ⟨hc, h⟩ := gd_some h
    obtain ⟨v, vs, rfl, h1, hv⟩ := hv.inv
    obtain ⟨u, us, rfl, h2, hv⟩ := hv.inv
    obtain rfl := hv.inv_nil
    rw [h1.str_inv, h2.str_inv]
    have hs : (ByteArray.mk s.toArray).size ≤ 9223372036854775807 := by
      rw [size_mk]; exact of_decide_eq_true hc
    exact ⟨_, _, h, rfl, .str _ _, (Tryz.strings_TrimSuffix ⟨s.toArray⟩ ⟨p.toArray⟩ w hs).mono fun e w' hq => ⟨by simpa using hq.1, hq.2 ▸ Below.refl _ _⟩⟩
  · cases h
def dig (n : Nat) : List UInt8 := bif Nat.blt n 10 then [UInt8.ofNat (48 + n)] else [UInt8.ofNat (48 + n / 10), UInt8.ofNat (48 + n % 10)]
theorem dig_eq {n : Nat} (h : n < 100) : Lib.decDigits n = dig n := by
  unfold dig
  rw [Lib.decDigits]
  split
  · rename_i h1
    rw [show Nat.blt n 10 = true from by simpa [Nat.blt_eq] using h1]; rfl
  · rename_i h1
    have hb : Nat.blt n 10 = false := by
      cases hb : Nat.blt n 10
      · rfl
      · exact absurd (Nat.le_of_ble_eq_true hb) h1
    rw [Lib.decDigits, dif_pos (by omega), hb]
    rfl
def F65 : List AV → Tr AV
  | [.int .i64 n] => .gd (inR n 0 99) (.leaf (.str (dig n.toNat)))
  | _ => .no
theorem ok65 : SumOK Tryz.prog 65 (ofT F65) ∧ SNat (ofT F65) := by
  refine sum_flat (by kernel_rfl) fun ρ w S avs args k r hF hS hv h => ?_
  unfold F65 at h
  split at h
  · rename_i n
    obtain ⟨hc, h⟩ := gd_some h
    obtain ⟨h0, h9⟩ := inR_spec hc
    obtain ⟨v, vs, rfl, h1, hv⟩ := hv.inv
    obtain rfl := hv.inv_nil
    obtain ⟨m, rfl⟩ : ∃ m : Nat, n = m := ⟨n.toNat, by omega⟩
    rw [h1.int_inv]
    refine ⟨_, _, h, rfl, .str _ _, (Tryz.strconv_Itoa_small m (by omega) w).mono fun e w' hq => ⟨?_, hq.2 ▸ Below.refl _ _⟩⟩
    rw [hq.1, dig_eq (by omega)]
    rfl
  · cases h
def F83 : List AV → Tr AV
  | [.str s, .int .i64 n] => .gd (decide (0 ≤ n) && (decide (n ≤ 9223372036854775807) && decide (s.length * n.toNat ≤ 140737488355328))) (.leaf (.str (Lib.repeatL s n.toNat)))
  | _ => .no
theorem ok83 : SumOK Tryz.prog 83 (ofT F83) ∧ SNat (ofT F83) := by
  refine sum_flat (by kernel_rfl) fun ρ w S avs args k r hF hS hv h => ?_
  unfold F83 at h
  split at h
  · rename_i s n
    obtain ⟨hc, h⟩ := gd_some h
    simp only [Bool.and_eq_true, decide_eq_true_eq] at hc
    obtain ⟨h0, h9, hl⟩ := hc
    obtain ⟨v, vs, rfl, h1, hv⟩ := hv.inv
    obtain ⟨u, us, rfl, h2, hv⟩ := hv.inv
    obtain rfl := hv.inv_nil
    obtain ⟨m, rfl⟩ : ∃ m : Nat, n = m := ⟨n.toNat, by omega⟩
    rw [h1.str_inv, h2.int_inv]
    exact ⟨_, _, h, rfl, .str _ _, (Tryz.strings_Repeat ⟨s.toArray⟩ m w (by omega) (by rw [size_mk]; exact hl)).mono fun e w' hq => ⟨by simpa using hq.1, hq.2⟩⟩
  · cases h
theorem strs_of {es : List AV} (h : ∀ e ∈ es, hasSh .str e = true) : ∃ l : List (List UInt8), es = l.map AV.str := by
  refine ⟨es.map AV.toStr, ?_⟩
  rw [List.map_map]
  symm
  conv => rhs; rw [← List.map_id es]
  refine List.map_congr_left fun v hv => ?_
  have := h v hv
  cases v <;> simp [hasSh, has1] at this
  rfl
theorem flat_strs : ∀ l : List (List UInt8), flat (l.map AV.str) = l.map AV.str
  | [] => rfl
  | s :: l => by
    show AV.cells (AV.str s) ++ flat (l.map AV.str) = _
    rw [flat_strs l]; rfl
def strL (es : List AV) : List (List UInt8) := es.map AV.toStr
theorem strL_map (l : List (List UInt8)) : strL (l.map AV.str) = l := by
  unfold strL; rw [List.map_map]; exact List.map_id _
theorem strs_vals {w : World} {S : Nat → Prop} {l : List (List UInt8)} {xs : List Value} (hv : VRels w S nob (l.map AV.str) xs) : xs = l.map fun s => Value.string ⟨s.toArray⟩ := by
  refine List.ext_getElem? fun j => ?_
  rw [List.getElem?_map]
  cases hj : l[j]? with
  | none =>
    have : xs.length = l.length := by rw [hv.1, List.length_map]
    rw [List.getElem?_eq_none (by rw [this]; exact List.getElem?_eq_none_iff.1 hj)]
    rfl
  | some n =>
    obtain ⟨u, hu, hr⟩ := hv.at_ (j := j) (c := .str n) (by rw [List.getElem?_map, hj]; rfl)
    rw [hu, hr.str_inv]
    rfl
def F75 : List AV → Tr AV
  | [.slv .str es, .str sep] => .gd (decide (es.length ≤ 140737488355328) && decide ((Lib.join (strL es) sep).length ≤ 140737488355328)) (.leaf (.str (Lib.join (strL es) sep)))
  | _ => .no
theorem ok75 : SumOK Tryz.prog 75 (ofT F75) ∧ SNat (ofT F75) := by
  refine sum_flat (by kernel_rfl) fun ρ w S avs args k r hF hS hv h => ?_
  unfold F75 at h
  split at h
  · rename_i es sep
    obtain ⟨hc, h⟩ := gd_some h
    simp only [Bool.and_eq_true, decide_eq_true_eq] at hc
    obtain ⟨hn, hl⟩ := hc
    obtain ⟨v, vs, rfl, h1, hv⟩ := hv.inv
    obtain ⟨u, us, rfl, h2, hv⟩ := hv.inv
    obtain rfl := hv.inv_nil
    rw [h2.str_inv]
    cases h1 with
    | slv _ _ _ A c a xs hs hcap hm hA hl' h1' hx hr =>
      obtain ⟨l, rfl⟩ := strs_of hs
      rw [flat_strs] at hl' hr
      rw [strL_map] at h hl
      have hxs := strs_vals ⟨hl', hr⟩
      subst hxs
      rcases l with _ | ⟨s0, l⟩
      · exact ⟨_, _, h, rfl, .str _ _, (Tryz.strings_Join_none A c ⟨sep.toArray⟩ w).mono fun e w' hq => ⟨by rw [hq.1]; rfl, hq.2 ▸ Below.refl _ _⟩⟩
      · obtain ⟨hA1, hA2⟩ := hA (by simp)
        have hsp : a.spot = none := spot_none (hx 0 _ rfl)
        rw [hA1, Addr.eta hsp]
        have hcells : ∀ (j : Nat) (x : ByteArray), ((s0 :: l).map fun s : List UInt8 => (⟨s.toArray⟩ : ByteArray))[j]? = some x → w.cell? ⟨a.block, a.off + j, none⟩ = some (.string x) := fun j x hj => by
          have h3 := hx j (.string x) (by
            rw [List.getElem?_map] at hj ⊢
            cases he : (s0 :: l)[j]? with
            | none => rw [he] at hj; simp at hj
            | some y => rw [he] at hj; simp at hj; subst hj; rfl)
          rw [← h3]
          congr 1
          unfold Addr.add
          split
          · rename_i h0; rw [h0]; exact (Addr.eta hsp).symm
          · rfl
        have hj := Tryz.strings_Join a.block a.off c ((s0 :: l).map fun s : List UInt8 => (⟨s.toArray⟩ : ByteArray)) ⟨sep.toArray⟩ w hcells (hS _ hA2) (by simpa using hn) (by simpa using hcap) (by simpa [List.map_map, Function.comp_def] using hl)
        rw [List.length_map] at hj
        rw [List.length_map]
        exact ⟨_, _, h, rfl, .str _ _, hj.mono fun e w' hq => ⟨by rw [hq.1]; simp [List.map_map, Function.comp_def], hq.2⟩⟩
  · cases h
theorem ints_of {es : List AV} (h : ∀ e ∈ es, hasSh (.int .u8) e = true) : es = (es.map AV.toInt).map (AV.int .u8) := by
  rw [List.map_map]
  conv => lhs; rw [← List.map_id es]
  refine List.map_congr_left fun v hv => ?_
  have := h v hv
  cases v <;> simp [hasSh, has1] at this
  subst this
  rfl
theorem ints_vals {w : World} {S : Nat → Prop} {l : List Int} {xs : List Value} (hv : VRels w S nob (l.map (AV.int .u8)) xs) : xs = l.map (Value.int .u8) := by
  refine List.ext_getElem? fun j => ?_
  rw [List.getElem?_map]
  cases hj : l[j]? with
  | none =>
    have : xs.length = l.length := by rw [hv.1, List.length_map]
    rw [List.getElem?_eq_none (by rw [this]; exact List.getElem?_eq_none_iff.1 hj)]
    rfl
  | some n =>
    obtain ⟨u, hu, hr⟩ := hv.at_ (j := j) (c := .int .u8 n) (by rw [List.getElem?_map, hj]; rfl)
    rw [hu, hr.int_inv]
    rfl
theorem bytesOf_str (l : List Int) : Lib.bytesOf l = strAV (l.map (AV.int .u8)) := by
  unfold Lib.bytesOf strAV; rw [List.map_map]; rfl
def F116 : List AV → Tr AV
  | [.slv (.int .u8) es, .slv (.int .u8) fs] => .gd (decide (es.length < 4294967281) && (decide (2 ≤ fs.length) && (decide (fs.length ≤ 9223372036854775807) && (es.all bE && fs.all bE)))) (.leaf (.int .i64 (Lib.index (strAV es) (strAV fs))))
  | _ => .no
theorem short_index : ∀ (s p : List UInt8), s.length < p.length → Lib.index s p = -1
  | [], [], h => absurd h (Nat.lt_irrefl _)
  | [], _ :: _, _ => rfl
  | b :: l, p, h => by
    unfold Lib.index
    have hp : p.isPrefixOf (b :: l) = false := by
      cases hh : p.isPrefixOf (b :: l)
      · rfl
      · have := (List.isPrefixOf_iff_prefix.1 hh).length_le
        omega
    rw [hp, short_index l p (by simp at h; omega)]
    rfl
theorem ok116 : SumOK Tryz.prog 116 (ofT F116) ∧ SNat (ofT F116) := by
  refine sum_flat (by kernel_rfl) fun ρ w S avs args k r hF hS hv h => ?_
  unfold F116 at h
  split at h
  · rename_i es fs
    obtain ⟨hc, h⟩ := gd_some h
    simp only [Bool.and_eq_true, decide_eq_true_eq] at hc
    obtain ⟨hn, h2, hm, ha, hb⟩ := hc
    obtain ⟨v, vs, rfl, h1, hv⟩ := hv.inv
    obtain ⟨u, us, rfl, h3, hv⟩ := hv.inv
    obtain rfl := hv.inv_nil
    cases h1 with
    | slv _ _ _ A c a xs hs hcap hmx hA hl' h1' hx hr =>
      cases h3 with
      | slv _ _ _ A2 c2 a2 ys hs2 hcap2 hmx2 hA2 hl2 h12 hx2 hr2 =>
        by_cases hlt : es.length < fs.length
        · refine ⟨_, _, h, rfl, .int _ _ _, (Tryz.bytes_Index_longer A A2 es.length c fs.length c2 w h2 hlt hm).mono fun e w' hq => ⟨?_, hq.2 ▸ Below.refl _ _⟩⟩
          rw [short_index _ _ (by unfold strAV; rw [List.length_map, List.length_map]; exact hlt)]
          exact hq.1
        · obtain ⟨hA1, _⟩ := hA (fun e => by rw [e] at hlt; simp at hlt; rw [hlt] at h2; simp at h2)
          obtain ⟨hA21, _⟩ := hA2 (fun e => by rw [e] at h2; simp at h2)
          have e1 := ints_of hs
          have e2 := ints_of hs2
          generalize es.map AV.toInt = l at e1
          generalize fs.map AV.toInt = m at e2
          subst e1 e2
          rw [flat_ints] at hl' hr hl2 hr2
          obtain rfl := ints_vals ⟨hl', hr⟩
          obtain rfl := ints_vals ⟨hl2, hr2⟩
          have hr1 : ∀ (l : List Int), (l.map (AV.int .u8)).all bE = true → ∀ x ∈ l, 0 ≤ x ∧ x < 256 := fun l hl x hx => by
            have := List.all_eq_true.1 hl _ (List.mem_map_of_mem hx)
            unfold bE at this
            simp only [Bool.and_eq_true] at this
            obtain ⟨q0, q1⟩ := inR_spec this.2
            exact ⟨q0, Int.lt_of_le_of_lt q1 (by decide)⟩
          have hat : ∀ (l : List Int) (a : Addr), (∀ (j : Nat) (u : Value), (l.map (Value.int .u8))[j]? = some u → w.cell? (a.add j) = some u) → ∀ i, i < l.length → w.cell? (a.add i) = some (.int .u8 (l.getD i 0)) := fun l a hx i hi => by
            refine hx i _ ?_
            rw [List.getElem?_map, List.getElem?_eq_getElem hi, List.getD, List.getElem?_eq_getElem hi]
            rfl
          rw [hA1, hA21]
          simp only [List.length_map] at hcap hn hm hcap2 ⊢
          obtain ⟨mx, hmx⟩ := hF
          refine ⟨_, _, h, rfl, .int _ _ _, (Tryz.bytes_Index_at a a2 l.length c m.length c2 l m mx w rfl rfl (hr1 l ha) (hr1 m hb) (hat l a hx) (hat m a2 hx2) hcap hn hm hmx).mono fun e w' hq => ⟨?_, ?_⟩⟩
          · rw [hq.1, bytesOf_str, bytesOf_str]
          · obtain ⟨q, hq⟩ := hq.2
            rw [hq]
            exact ⟨rfl, rfl, rfl, Nat.le_refl _, fun _ _ => rfl⟩
  · cases h
end Go.Proofs.YthdhfmdhjanoaaaGreatDoor

namespace Go.Proofs.YthdhfmdhjanoaaaGreatDoor
open Go.Ev Go.RowKit
def F84 : List AV → List Row → Tr XOut
  | [.str s, .str sep], [] => .gd (decide (s.length < 4294967281) && decide (1 ≤ sep.length)) (.leaf (.own RID, [], [.arr false .str 9 ((Lib.split s sep).map AV.str) none]))
  | _, _ => .no
theorem split_eq (s sep : List UInt8) : (Lib.splitB ⟨sep.toArray⟩ 0 (Lib.countB ⟨s.toArray⟩ ⟨sep.toArray⟩) ⟨s.toArray⟩).map Value.string = (Lib.split s sep).map fun x => Value.string ⟨x.toArray⟩ := by
  have h := Lib.splitB_data ⟨sep.toArray⟩ 0 (Lib.countB ⟨s.toArray⟩ ⟨sep.toArray⟩) ⟨s.toArray⟩
  have h2 : Lib.split s sep = (Lib.splitB ⟨sep.toArray⟩ 0 (Lib.countB ⟨s.toArray⟩ ⟨sep.toArray⟩) ⟨s.toArray⟩).map (·.data.toList) := by rw [h]; rfl
  rw [h2, List.map_map]
  rfl
theorem split_len (s sep : List UInt8) (h : 1 ≤ sep.length) : (Lib.split s sep).length = Lib.countB ⟨s.toArray⟩ ⟨sep.toArray⟩ + 1 := by
  have e := congrArg List.length (split_eq s sep)
  rw [List.length_map, List.length_map, Lib.splitB_all ⟨sep.toArray⟩ (by rw [size_mk]; exact h) 0 _ ⟨s.toArray⟩ rfl] at e
  exact e.symm
theorem split_le (s sep : List UInt8) (h : 1 ≤ sep.length) : (Lib.split s sep).length ≤ s.length + 1 := by
  have := Lib.countB_le ⟨sep.toArray⟩ (by rw [size_mk]; exact h) s.length ⟨s.toArray⟩ (by rw [size_mk]; exact Nat.le_refl _)
  rw [size_mk] at this
  rw [split_len s sep h]
  omega
theorem heap_new (w : World) (o : Obj) : (w.alloc o).heap[w.heap.size]? = some o := heap_alloc_new w o
theorem heap_old (w : World) (o : Obj) {k : Nat} (h : k < w.heap.size) : (w.alloc o).heap[k]? = w.heap[k]? := heap_alloc_old w o h
theorem ok84 : XOK Tryz.prog 84 (ofX F84) ∧ XNat (ofX F84) := by
  refine ⟨fun ρ w S B β og avs rows args k r hH hSB hdom hv h => ?_, xnat_ofX F84⟩
  have h' : (F84 avs rows).run (fun q => k q.1 q.2.1 q.2.2) = some r := h
  unfold F84 at h'
  split at h'
  · rename_i s sep
    obtain ⟨hc, hk⟩ := gd_some h'
    simp only [Bool.and_eq_true, decide_eq_true_eq] at hc
    obtain ⟨hs, hp⟩ := hc
    obtain ⟨v, vs, rfl, h1, hv⟩ := hv.inv
    obtain ⟨u, us, rfl, h2, hv⟩ := hv.inv
    obtain rfl := hv.inv_nil
    rw [h1.str_inv, h2.str_inv]
    obtain ⟨mx, hmx⟩ := hSB.2 w (Kept.refl _ _)
    refine .inl ⟨by kernel_rfl, (Tryz.strings_Split ⟨s.toArray⟩ ⟨sep.toArray⟩ mx w (by rw [size_mk]; exact hs) hmx (by rw [size_mk]; exact hp)).mono fun e w' hq => ?_⟩
    obtain ⟨he, hw⟩ := hq
    rw [← split_len s sep hp] at he
    rw [split_eq] at hw
    have hnew := heap_new w (.cells ((Lib.split s sep).map fun x => Value.string ⟨x.toArray⟩).toArray 9)
    have hold : ∀ k, k < w.heap.size → w'.heap[k]? = w.heap[k]? := fun k hk => by rw [hw]; exact heap_old w _ hk
    have hsz : w'.heap.size = w.heap.size + 1 := by rw [hw]; simp
    have hbel : Below w.heap.size w w' := ⟨by rw [hw]; rfl, by rw [hw]; rfl, by rw [hw]; rfl, by omega, hold⟩
    have hnS : ¬ S w.heap.size := fun h => Nat.lt_irrefl _ (hH.Slt _ h)
    have hnB : ¬ B w.heap.size := fun h => Nat.lt_irrefl _ (hH.Ble _ h)
    refine ⟨_, _, _, _, S, upd β RID (some (.slice (some ⟨w.heap.size, 0, none⟩) (Lib.split s sep).length (Lib.split s sep).length, 1)), upd og RID (some w.heap.size), he, hk, ?_⟩
    refine ⟨Kept.of_below hbel hH.Ble, fun _ h => h, fun _ h => .inl h, .own _ RID _ _ (upd_same _ _ _), fun j r hj => by simp at hj, fun j r hj => ?_, fun id id' g hg hg' => ?_, fun id g hg => ?_, fun id x hx => ?_, fun b hb => by have := hH.Slt b hb; omega, fun id x hid hx => ?_⟩
    · match j with
      | 0 =>
        simp only [List.getElem?_cons_zero, Option.some.injEq] at hj
        subst hj
        refine ⟨by decide, _, [], (Lib.split s sep).map fun x => Value.string ⟨x.toArray⟩, fun x hx => ?_, (fun c h => by cases h), upd_same _ _ _, fun u hu => ?_, ?_, .inr ⟨w.heap.size, upd_same _ _ _, ?_, hnB, ⟨_, .inl rfl, by rw [hw]; exact hnew⟩, ?_, fun _ => hnS, (fun h => by cases h)⟩⟩
        · rw [List.append_nil] at hx
          obtain ⟨y, _, rfl⟩ := List.mem_map.1 hx
          rfl
        · obtain ⟨y, _, rfl⟩ := List.mem_map.1 hu
          rfl
        · rw [List.append_nil, flat_strs]
          refine ⟨by simp, fun j c u hc hu => ?_⟩
          rw [List.getElem?_map] at hc hu
          cases hj : (Lib.split s sep)[j]? with
          | none => rw [hj] at hc; simp at hc
          | some y => rw [hj] at hc hu; simp at hc hu; subst hc hu; exact .str _ _
        · simp
        · have := split_le s sep hp
          simp only [List.length_map, List.length_nil, maxLen]; omega
      | j + 1 => simp at hj
    · by_cases e : id = RID <;> by_cases e' : id' = RID
      · rw [e, e']
      · rw [e, upd_same] at hg; rw [upd_other _ _ _ _ e'] at hg'
        cases hg
        exact absurd (hH.lt _ _ hg') (Nat.lt_irrefl _)
      · rw [e', upd_same] at hg'; rw [upd_other _ _ _ _ e] at hg
        cases hg'
        exact absurd (hH.lt _ _ hg) (Nat.lt_irrefl _)
      · rw [upd_other _ _ _ _ e] at hg; rw [upd_other _ _ _ _ e'] at hg'
        exact hH.inj _ _ _ hg hg'
    · by_cases e : id = RID
      · rw [e, upd_same] at hg; cases hg; omega
      · rw [upd_other _ _ _ _ e] at hg; have := hH.lt _ _ hg; omega
    · by_cases e : id = RID
      · rw [e, upd_same] at hx; cases hx; rfl
      · rw [upd_other _ _ _ _ e] at hx; exact hH.one _ _ hx
    · rw [upd_other _ _ _ _ (Nat.ne_of_lt hid)] at hx; exact hx
  · cases h'
theorem slv_keep {w w' : World} {S S' : Nat → Prop} {β β' : Bet} {s : Sh} {es : List AV} {v : Value} (h : VRel w S β (.slv s es) v) (hS : ∀ b, S b → S' b) (hw : ∀ b, S b → w'.heap[b]? = w.heap[b]?) : VRel w' S' β' (.slv s es) v := by
  cases h with
  | slv _ _ _ A c a xs hs hc hm hA hl h1 hx hr =>
    exact (VRel.slv nob s es A c a xs hs hc hm hA hl h1 hx hr).mono hS hw (fun _ _ h => by cases h)
theorem run101 (s sep : Value) (h1 : s.oneCell' = true) (h2 : sep.oneCell' = true) (n : Int) (w : World) :
    Calls Tryz.prog 101 #[s, sep, .int .i64 n] w fun e w' => e = .returned (.func (.func 114) #[] #[.pointer (some ⟨w.heap.size + 1, 0, none⟩), .pointer (some ⟨w.heap.size, 0, none⟩), .pointer (some ⟨w.heap.size + 2, 0, none⟩)]) ∧
      w' = ((w.alloc (.cells #[s] 23)).alloc (.cells #[sep] 23)).alloc (.cells #[.int .i64 n] 3) := by
  go_enter Tryz.func101, Tryz.ntmps101
  go_wp2
  go_ret
  exact ⟨rfl, rfl⟩
theorem run81 (s sep : Value) (h1 : s.oneCell' = true) (h2 : sep.oneCell' = true) (w : World) :
    Calls Tryz.prog 81 #[s, sep] w fun e w' => e = .returned (.func (.func 114) #[] #[.pointer (some ⟨w.heap.size + 1, 0, none⟩), .pointer (some ⟨w.heap.size, 0, none⟩), .pointer (some ⟨w.heap.size + 2, 0, none⟩)]) ∧
      w' = ((w.alloc (.cells #[s] 23)).alloc (.cells #[sep] 23)).alloc (.cells #[.int .i64 0] 3) := by
  have e101 : ∀ args w, (callFunc 101 args).run Tryz.prog w = .ok (.enter 101 args) w := enters_of Tryz.func101 (by kernel_rfl) rfl
  have hc := run101 s sep h1 h2
  go_enter Tryz.func81, Tryz.ntmps81
  go_wp2_with (go_at_fn 101; refine (hc 0 _).mono ?_; rintro e w' ⟨rfl, rfl⟩)
  go_ret
  exact ⟨rfl, rfl⟩
def F81 : List AV → List Row → Tr XOut
  | [.slv (.int .u8) es, .own p], [.arr _im (.int .u8) _e fs _sp] => .gd (p == PID) (.leaf (.fn 114 [.ptr (RID + 1) 0, .ptr RID 0, .ptr (RID + 2) 0], [none], [.box false [.slv (.int .u8) es], .box false [.slv (.int .u8) fs], .box false [.int .i64 0]]))
  | _, _ => .no
theorem upd3 {α : Type} {f : Nat → Option α} {i a b c : Nat} {x y z : Option α} {q : α} (h : upd (upd (upd f a x) b y) c z i = some q) : (i = c ∧ z = some q) ∨ (i ≠ c ∧ i = b ∧ y = some q) ∨ (i ≠ c ∧ i ≠ b ∧ i = a ∧ x = some q) ∨ (i ≠ c ∧ i ≠ b ∧ i ≠ a ∧ f i = some q) := by
  unfold upd at h
  split at h
  · exact .inl ⟨by assumption, h⟩
  · split at h
    · exact .inr (.inl ⟨by assumption, by assumption, h⟩)
    · split at h
      · exact .inr (.inr (.inl ⟨by assumption, by assumption, by assumption, h⟩))
      · exact .inr (.inr (.inr ⟨by assumption, by assumption, by assumption, h⟩))
theorem ok81 : XOK Tryz.prog 81 (ofX F81) ∧ XNat (ofX F81) := by
  refine ⟨fun ρ w S B β og avs rows args k r hH hSB hdom hv h => ?_, xnat_ofX F81⟩
  have h' : (F81 avs rows).run (fun q => k q.1 q.2.1 q.2.2) = some r := h
  unfold F81 at h'
  split at h'
  · rename_i es p im e fs sp
    obtain ⟨hc, hk⟩ := gd_some h'
    obtain rfl : p = PID := by simpa using hc
    have hr0 := hH.row PID (.arr im (.int .u8) e fs sp) (by simp [zipIds, lookup])
    have hogB : ∀ g, og PID = some g → ¬ B g := fun g hg => by
      obtain ⟨_, v, sp', xs, _, _, _, _, _, hor⟩ := hr0
      rcases hor with ⟨_, _, hn, _⟩ | ⟨g', hg', _, hB, _⟩
      · rw [hn] at hg; cases hg
      · rw [hg'] at hg; cases hg; exact hB
    obtain ⟨v, vs, rfl, h1, hv⟩ := hv.inv
    obtain ⟨u, us, rfl, h2, hv⟩ := hv.inv
    obtain rfl := hv.inv_nil
    obtain ⟨v0, hb0, hs0, _⟩ := arr_slv (S' := fun b => S b ∨ og PID = some b) hr0 (fun _ h => .inl h) (fun g hg => .inr hg) nob
    have hu : u = v0 := by
      cases h2 with
      | own _ _ _ wd hb => rw [hb0] at hb; simp at hb; exact hb.1.symm
    subst hu
    have hv1 : v.oneCell' = true := by cases h1 with | slv => rfl
    have hu1 : u.oneCell' = true := hH.one _ _ hb0
    refine .inl ⟨by kernel_rfl, (run81 v u hv1 hu1 w).mono fun e1 w' hq => ?_⟩
    obtain ⟨he, hw⟩ := hq
    have hsz : w'.heap.size = w.heap.size + 3 := by rw [hw]; simp
    have hold : ∀ k, k < w.heap.size → w'.heap[k]? = w.heap[k]? := fun k hk => by
      rw [hw, heap_old _ _ (by simp; omega), heap_old _ _ (by simp; omega), heap_old _ _ hk]
    have n0 : w'.heap[w.heap.size]? = some (.cells #[v] 23) := by
      rw [hw, heap_old _ _ (by simp; omega), heap_old _ _ (by simp), heap_new]
    have n1 : w'.heap[w.heap.size + 1]? = some (.cells #[u] 23) := by
      rw [hw, heap_old _ _ (by simp)]
      have := heap_new (w.alloc (.cells #[v] 23)) (.cells #[u] 23)
      simpa using this
    have n2 : w'.heap[w.heap.size + 2]? = some (.cells #[.int .i64 0] 3) := by
      rw [hw]
      have := heap_new ((w.alloc (.cells #[v] 23)).alloc (.cells #[u] 23)) (.cells #[.int .i64 0] 3)
      simpa using this
    have hbel : Below w.heap.size w w' := ⟨by rw [hw]; rfl, by rw [hw]; rfl, by rw [hw]; rfl, by omega, hold⟩
    have hS' : ∀ b, (S b ∨ og PID = some b) → b < w.heap.size := fun b h => h.elim (hH.Slt b) (fun h => hH.lt _ _ h)
    have hnS : ∀ j, ¬ (S (w.heap.size + j) ∨ og PID = some (w.heap.size + j)) := fun j h => by have := hS' _ h; omega
    have hnB : ∀ j, ¬ B (w.heap.size + j) := fun j h => by have := hH.Ble _ h; omega
    have hw' : ∀ b, (S b ∨ og PID = some b) → w'.heap[b]? = w.heap[b]? := fun b h => hold b (hS' b h)
    let P := fun j : Nat => Value.pointer (some ⟨w.heap.size + j, 0, none⟩)
    let β' : Bet := upd (upd (upd β RID (some (P 0, 1))) (RID + 1) (some (P 1, 1))) (RID + 2) (some (P 2, 1))
    let og' : Nat → Option Nat := upd (upd (upd (fun i => bif i == PID then none else og i) RID (some w.heap.size)) (RID + 1) (some (w.heap.size + 1))) (RID + 2) (some (w.heap.size + 2))
    have b2 : β' (RID + 2) = some (P 2, 1) := upd_same _ _ _
    have b1 : β' (RID + 1) = some (P 1, 1) := by show upd _ _ _ _ = _; rw [upd_other _ _ _ _ (by simp), upd_same]
    have b0 : β' RID = some (P 0, 1) := by show upd _ _ _ _ = _; rw [upd_other _ _ _ _ (by simp), upd_other _ _ _ _ (by simp), upd_same]
    have o2 : og' (RID + 2) = some (w.heap.size + 2) := upd_same _ _ _
    have o1 : og' (RID + 1) = some (w.heap.size + 1) := by show upd _ _ _ _ = _; rw [upd_other _ _ _ _ (by simp), upd_same]
    have o0 : og' RID = some w.heap.size := by show upd _ _ _ _ = _; rw [upd_other _ _ _ _ (by simp), upd_other _ _ _ _ (by simp), upd_same]
    have hogo : ∀ i g, (bif i == PID then none else og i) = some g → og i = some g := fun i g h => by
      cases hi : i == PID
      · rw [hi] at h; exact h
      · rw [hi] at h; cases h
    refine ⟨_, _, _, _, (fun b => S b ∨ og PID = some b), β', og', he, hk, ?_⟩
    refine ⟨Kept.of_below hbel hH.Ble, fun _ h => .inl h, fun b h => h.imp id (hogB b), .fn _ 114 _ [P 1, P 0, P 2] rfl fun j c u hc hu => ?_, fun j r hj => ?_, fun j r hj => ?_, fun id id' g hg hg' => ?_, fun id g hg => ?_, fun id x hx => ?_, fun b hb => by have := hS' b hb; omega, fun id x hid hx => ?_⟩
    · match j with
      | 0 => simp at hc hu; subst hc hu; exact .ptr _ _ _ _ _ b1
      | 1 => simp at hc hu; subst hc hu; exact .ptr _ _ _ _ _ b0
      | 2 => simp at hc hu; subst hc hu; exact .ptr _ _ _ _ _ b2
      | j + 3 => simp at hc
    · match j with
      | 0 => simp at hj
      | j + 1 => simp at hj
    · match j with
      | 0 =>
        simp only [List.getElem?_cons_zero, Option.some.injEq] at hj
        subst hj
        exact ⟨w.heap.size, [v], P 0, o0, b0, .inl ⟨⟨23, n0⟩, rfl, fun u hu => by simp at hu; subst hu; exact hv1⟩, VRels.cons (slv_keep h1 (fun _ h => .inl h) (fun b hb => hold b (hH.Slt b hb))) VRels.nil, fun _ => hnS 0, (fun h => by cases h), hnB 0⟩
      | 1 =>
        simp only [List.getElem?_cons_succ, List.getElem?_cons_zero, Option.some.injEq] at hj
        subst hj
        exact ⟨w.heap.size + 1, [u], P 1, o1, b1, .inl ⟨⟨23, n1⟩, rfl, fun u' hu => by simp at hu; subst hu; exact hu1⟩, VRels.cons (slv_keep hs0 (fun _ h => h) hw') VRels.nil, fun _ => hnS 1, (fun h => by cases h), hnB 1⟩
      | 2 =>
        simp only [List.getElem?_cons_succ, List.getElem?_cons_zero, Option.some.injEq] at hj
        subst hj
        exact ⟨w.heap.size + 2, [.int .i64 0], P 2, o2, b2, .inl ⟨⟨3, n2⟩, rfl, fun u' hu => by simp at hu; subst hu; rfl⟩, VRels.cons (.int _ _ _) VRels.nil, fun _ => hnS 2, (fun h => by cases h), hnB 2⟩
      | j + 3 => simp at hj
    · rcases upd3 hg with ⟨e1, h1⟩ | ⟨_, e1, h1⟩ | ⟨_, _, e1, h1⟩ | ⟨_, _, _, h1⟩ <;> rcases upd3 hg' with ⟨e2, h2⟩ | ⟨_, e2, h2⟩ | ⟨_, _, e2, h2⟩ | ⟨_, _, _, h2⟩
      all_goals first
        | (rw [e1, e2]; done)
        | (exfalso; simp only [Option.some.injEq] at h1 h2; omega)
        | (exfalso; have := hH.lt _ _ (hogo _ _ h2); simp only [Option.some.injEq] at h1; omega)
        | (exfalso; have := hH.lt _ _ (hogo _ _ h1); simp only [Option.some.injEq] at h2; omega)
        | exact hH.inj _ _ _ (hogo _ _ h1) (hogo _ _ h2)
    · rcases upd3 hg with ⟨_, h1⟩ | ⟨_, _, h1⟩ | ⟨_, _, _, h1⟩ | ⟨_, _, _, h1⟩
      · simp only [Option.some.injEq] at h1; omega
      · simp only [Option.some.injEq] at h1; omega
      · simp only [Option.some.injEq] at h1; omega
      · have := hH.lt _ _ (hogo _ _ h1); omega
    · rcases upd3 hx with ⟨_, h1⟩ | ⟨_, _, h1⟩ | ⟨_, _, _, h1⟩ | ⟨_, _, _, h1⟩
      · cases h1; rfl
      · cases h1; rfl
      · cases h1; rfl
      · exact hH.one _ _ h1
    · rcases upd3 hx with ⟨e1, _⟩ | ⟨_, e1, _⟩ | ⟨_, _, e1, _⟩ | ⟨_, _, _, h1⟩
      · omega
      · omega
      · omega
      · exact h1
  · cases h'
end Go.Proofs.YthdhfmdhjanoaaaGreatDoor
