/-
  SignSurvivesRelays, the tied card: for every input the call returns true, and the arguments read as before; the listed tables read as the program's text lays them.
-/
import Derived.Test.YthdhfmdhjanoaaaGreatDoorTsU
import Derived.Test.YthdhfmdhjanoaaaGreatDoorEvY
import Derived.Test.YthdhfmdhjanoaaaGreatDoorRows
import Derived.WalkKit
import Derived.ProofKit
import Derived.OpenShut
import Derived.HandedShaped
import Derived.Shelf.Vars
import Derived.Test.YthdhfmdhjanoaaaGreatDoorCards
import Derived.Test.YthdhfmdhjanoaaaGreatDoorTie
import Derived.LaidMore
import Derived.Lay
import Derived.SevenTiedAt
import Derived.Stop.Joined

namespace Go.Proofs.YthdhfmdhjanoaaaGreatDoor
open Go.Ev Go.RowKit
def F84p : List AV → Tr AV
  | [.str s, .str sep] => .gd (decide (s.length < 4294967281) && decide (1 ≤ sep.length)) (.leaf (.slv .str ((Lib.split s sep).map AV.str)))
  | _ => .no
theorem ok84p : SumOK Tryz.prog 84 (ofT F84p) ∧ SNat (ofT F84p) := by
  refine ⟨fun ρ w S avs args k r hS hv h => ?_, snat_ofT _⟩
  change (F84p avs).run k = some r at h
  unfold F84p at h
  split at h
  · rename_i s sep
    obtain ⟨hc, hk⟩ := gd_some h
    simp only [Bool.and_eq_true, decide_eq_true_eq] at hc
    obtain ⟨hs, hp⟩ := hc
    obtain ⟨v, vs, rfl, h1, hv⟩ := hv.inv
    obtain ⟨u, us, rfl, h2, hv⟩ := hv.inv
    obtain rfl := hv.inv_nil
    rw [h1.str_inv, h2.str_inv]
    obtain ⟨mx, hmx⟩ := hS.2 w (Kept.refl _ _)
    refine .inl ⟨by kernel_rfl, (Tryz.strings_Split ⟨s.toArray⟩ ⟨sep.toArray⟩ mx w (by rw [size_mk]; exact hs) hmx (by rw [size_mk]; exact hp)).mono fun e w' hq => ?_⟩
    obtain ⟨he, hw⟩ := hq
    rw [← split_len s sep hp] at he
    rw [split_eq] at hw
    have hnew := heap_new w (.cells ((Lib.split s sep).map fun x => Value.string ⟨x.toArray⟩).toArray 9)
    have hold : ∀ k, k < w.heap.size → w'.heap[k]? = w.heap[k]? := fun k hk => by rw [hw]; exact heap_old w _ hk
    have hsz : w'.heap.size = w.heap.size + 1 := by rw [hw]; simp
    have hbel : Below w.heap.size w w' := ⟨by rw [hw]; rfl, by rw [hw]; rfl, by rw [hw]; rfl, by omega, hold⟩
    have hlie : Lies w' w.heap.size ((Lib.split s sep).map fun x => Value.string ⟨x.toArray⟩).toArray 9 false := ⟨_, .inl rfl, by rw [hw]; exact hnew⟩
    have hle := split_le s sep hp
    refine ⟨_, _, fun b => b = w.heap.size, he, hk, hbel, fun b hb => .inr (by omega), fun b hb => by omega, ?_⟩
    have hrel : VRel w' (fun b => b = w.heap.size) nob (.slv .str ((Lib.split s sep).map AV.str)) (.slice (some ⟨w.heap.size, 0, none⟩) ((Lib.split s sep).map AV.str).length (Lib.split s sep).length) := by
      refine .slv nob .str ((Lib.split s sep).map AV.str) (some ⟨w.heap.size, 0, none⟩) (Lib.split s sep).length ⟨w.heap.size, 0, none⟩ ((Lib.split s sep).map fun x => Value.string ⟨x.toArray⟩) ?_ ?_ ?_ (fun _ => ⟨rfl, rfl⟩) ?_ ?_ ?_ ?_
      · intro e he
        obtain ⟨y, _, rfl⟩ := List.mem_map.1 he
        rfl
      · rw [List.length_map]; exact Nat.le_refl _
      · unfold maxLen; omega
      · rw [flat_strs]; simp
      · intro u hu
        obtain ⟨y, _, rfl⟩ := List.mem_map.1 hu
        rfl
      · intro j u hu
        rw [add_lit, row_cell hlie]
        simpa using hu
      · intro j c u hc hu
        rw [flat_strs] at hc
        rw [List.getElem?_map] at hc hu
        cases hj : (Lib.split s sep)[j]? with
        | none => rw [hj] at hc; simp at hc
        | some y => rw [hj] at hc hu; simp at hc hu; subst hc hu; exact .str _ _
    rw [List.length_map] at hrel
    exact hrel
  · cases h
theorem nm_len {s : List UInt8} (h : nmS s = true) : s.length ≤ 60 ∧ 1 ≤ s.length := by
  unfold nmS at h
  simp only [Bool.and_eq_true] at h
  obtain ⟨h1, h2⟩ := inR_spec h.2
  omega
theorem join_len (p : List UInt8) (b : Nat) : ∀ l : List (List UInt8), (∀ x ∈ l, x.length ≤ b) → (Lib.join l p).length ≤ l.length * (b + p.length)
  | [], _ => Nat.zero_le _
  | [x], h => by
    rw [Lib.join_one]
    have := h x (by simp)
    simp only [List.length_cons, List.length_nil]
    omega
  | x :: y :: l, h => by
    rw [join_cons2 x (by simp), List.length_append, List.length_append]
    have h1 := h x (by simp)
    have h2 := join_len p b (y :: l) fun z hz => h z (by simp [hz])
    rw [List.length_cons (a := x), Nat.succ_mul]
    omega
theorem strL_sL {ns : List AV} (h : ns.all okN = true) : strL ns = sL ns := by
  unfold strL sL
  refine List.map_congr_left fun e he => ?_
  have := List.all_eq_true.1 h e he
  unfold okN isS at this
  cases e <;> simp at this
  rfl
theorem nam_all {ns : List AV} (h : namB ns = true) : ns.length ≤ 20 ∧ 1 ≤ ns.length ∧ ∀ e ∈ ns, nmS (sE e) = true ∧ (sE e == sgL) = false := by
  unfold namB at h
  simp only [Bool.and_eq_true, Bool.not_eq_true'] at h
  obtain ⟨h1, h2⟩ := inR_spec h.1
  refine ⟨by omega, by omega, fun e he => ?_⟩
  obtain ⟨i, hi, rfl⟩ := List.getElem_of_mem he
  have hw : wrE ns i = false := by
    cases hf : findN (wrE ns) ns.length 0 with
    | none => exact findN_none hf i (Nat.zero_le _) hi
    | some q => rw [hf] at h; cases h.2
  unfold wrE at hw
  rw [getD_eq hi, wrB_eq] at hw
  simpa using hw
theorem nam_len {ns : List AV} (h : namB ns = true) : ns.length ≤ 20 ∧ (Lib.join (sL ns) [58]).length ≤ 2000 := by
  obtain ⟨h1, _, h3⟩ := nam_all h
  refine ⟨h1, ?_⟩
  have := join_len [58] 60 (sL ns) fun x hx => by
    obtain ⟨e, he, rfl⟩ := List.mem_map.1 hx
    exact (nm_len (h3 e he).1).1
  have hl : (sL ns).length = ns.length := List.length_map _
  rw [hl] at this
  have h2 : ([58] : List UInt8).length = 1 := rfl
  rw [h2] at this
  omega
theorem vd_hv {es bs : List AV} (h : (vdC es bs == 0) = true) : (hvC es == 0) = true := by
  unfold vdC at h
  cases h0 : hvC es == 0
  · rw [h0] at h; simp only [Bool.not_false, cond_true] at h; rw [h0] at h; cases h
  · rfl
theorem vaS_len {key : Int} {d : List UInt8} {ns es bs : List AV} (hd : d.length ≤ 60) (hj : (Lib.join (strL ns) [58]).length ≤ 2000) : (vaS key d ns es bs).length ≤ 3000 := by
  unfold vaS
  cases vaB es bs ns
  · exact Nat.zero_le _
  · show (sgS _ _ _ _ _).length ≤ _
    unfold sgS sgFr
    simp only [List.length_append, List.length_cons, List.length_nil, hexS_len]
    omega
noncomputable def G17 : Env := { pure := [(18, ofT F18), (42, ofT F19), (44, ofT F44), (45, ofT F45), (46, ofT F46), (41, evF Tryz.prog G0 [] Tryz.f41), (43, evF Tryz.prog G0 [] Tryz.f43), (47, evF Tryz.prog G0 [] Tryz.f47)] }
theorem g17 : GOK Tryz.prog G17 := GOK.also (GOK.also (GOK.also (GOK.also (GOK.also (GOK.also (GOK.also (GOK.also g0 (inl g0 Tryz.func47 (by kernel_rfl))) (inl g0 Tryz.func43 (by kernel_rfl))) (inl g0 Tryz.func41 (by kernel_rfl))) ok46) ok45) ok44) ok42') ok18
def sgM (key : Int) (d : List UInt8) (ns es bs : List AV) : List AV := .agg [.str sgF, .str (vaS key d ns es bs)] :: es
def siC (key : Int) (d : List UInt8) (ns es bs : List AV) : Int := bif !(vdC es bs == 0) then vdC es bs else bif !nmS d then 10 else bif !namB ns then 10 else bif !vaB es bs ns then 17 else vdC (sgM key d ns es bs) bs
def siI (key : Int) (d : List UInt8) (ns es bs : List AV) : Int := bif !(vdC es bs == 0) then vdI es bs else bif !nmS d then -20 else bif !namB ns then -21 else bif !vaB es bs ns then -22 else bif !(vdC (sgM key d ns es bs) bs == 0) then -23 else 0
def siF (key : Int) (d : List UInt8) (ns es bs : List AV) : List AV := bif siC key d ns es bs == 0 then sgM key d ns es bs else []
def siB (key : Int) (d : List UInt8) (ns es bs : List AV) : List AV := bif siC key d ns es bs == 0 then bs else []
def F17 : List AV → Tr AV
  | [.agg [.slv (.agg [.str, .str]) es, .slv (.int .u8) bs], .str d, .int .u64 key, .slv .str ns] => .gd ((small es.length && es.all okF) && ((small ns.length && ns.all okN) && (bs.all bE && (small d.length && decide (bs.length ≤ 141000000000000))))) (.leaf (.tup [.agg [.slv (.agg [.str, .str]) (siF key d ns es bs), .slv (.int .u8) (siB key d ns es bs)], .agg [.int .i64 (siC key d ns es bs), .int .i64 (siI key d ns es bs)]]))
  | _ => .no
theorem ok17 : SumOK Tryz.prog 17 (ofT F17) ∧ SNat (ofT F17) := by
  refine fn0 g17 Tryz.func17 (by kernel_rfl) fun ρ avs k r h => ?_
  unfold F17 at h
  split at h
  · rename_i es bs d key ns
    obtain ⟨hc, hk⟩ := gd_some h
    refine Eq.trans (b := bif small es.length && (es.all okF && decide (bs.length ≤ (141000000000000 : Nat))) then bif vdC es bs != (0 : Int) then k (AV.tup [AV.agg [AV.slv (Sh.agg [Sh.str, Sh.str]) [], AV.slv (Sh.int IntKind.u8) []], AV.agg [AV.int IntKind.i64 (vdC es bs), AV.int IntKind.i64 (vdI es bs)]]) else bif small d.length then bif !nmS d then k (AV.tup [AV.agg [AV.slv (Sh.agg [Sh.str, Sh.str]) [], AV.slv (Sh.int IntKind.u8) []], AV.agg [AV.int IntKind.i64 (10 : Int), AV.int IntKind.i64 (-20 : Int)]]) else bif small ns.length && ns.all okN then bif !namB ns then k (AV.tup [AV.agg [AV.slv (Sh.agg [Sh.str, Sh.str]) [], AV.slv (Sh.int IntKind.u8) []], AV.agg [AV.int IntKind.i64 (10 : Int), AV.int IntKind.i64 (-21 : Int)]]) else bif small es.length && (es.all okF && ns.all okN) && (bs.all bE && decide (d.length ≤ (1000000 : Nat) ∧ ns.length ≤ (1000000 : Nat) ∧ (Lib.join (strL ns) [(58 : UInt8)]).length ≤ (1000000 : Nat))) then bif !vaB es bs ns then k (AV.tup [AV.agg [AV.slv (Sh.agg [Sh.str, Sh.str]) [], AV.slv (Sh.int IntKind.u8) []], AV.agg [AV.int IntKind.i64 (17 : Int), AV.int IntKind.i64 (-22 : Int)]]) else bif decide (es.length ≤ (900000 : Nat) ∧ bs.length ≤ (141000000000000 : Nat)) then bif small (AV.agg [AV.str ([77, 97, 105, 108, 45, 83, 105, 103, 110, 97, 116, 117, 114, 101] : List UInt8), AV.str (vaS key d ns es bs)] :: es).length && ((AV.agg [AV.str ([77, 97, 105, 108, 45, 83, 105, 103, 110, 97, 116, 117, 114, 101] : List UInt8), AV.str (vaS key d ns es bs)] :: es).all okF && decide (bs.length ≤ (141000000000000 : Nat))) then bif vdC (AV.agg [AV.str ([77, 97, 105, 108, 45, 83, 105, 103, 110, 97, 116, 117, 114, 101] : List UInt8), AV.str (vaS key d ns es bs)] :: es) bs != (0 : Int) then k (AV.tup [AV.agg [AV.slv (Sh.agg [Sh.str, Sh.str]) [], AV.slv (Sh.int IntKind.u8) []], AV.agg [AV.int IntKind.i64 (vdC (AV.agg [AV.str ([77, 97, 105, 108, 45, 83, 105, 103, 110, 97, 116, 117, 114, 101] : List UInt8), AV.str (vaS key d ns es bs)] :: es) bs), AV.int IntKind.i64 (-23 : Int)]]) else k (AV.tup [AV.agg [AV.slv (Sh.agg [Sh.str, Sh.str]) (AV.agg [AV.str [(77 : UInt8), (97 : UInt8), (105 : UInt8), (108 : UInt8), (45 : UInt8), (83 : UInt8), (105 : UInt8), (103 : UInt8), (110 : UInt8), (97 : UInt8), (116 : UInt8), (117 : UInt8), (114 : UInt8), (101 : UInt8)], AV.str (vaS key d ns es bs)] :: es), AV.slv (Sh.int IntKind.u8) bs], AV.agg [AV.int IntKind.i64 (0 : Int), AV.int IntKind.i64 (0 : Int)]]) else none else none else none else none else none else none) (by kernel_rfl) ?_
    rw [← hk]
    simp only [Bool.and_eq_true] at hc
    obtain ⟨⟨hs, hall⟩, ⟨hsn, hn⟩, hb, hd, hbl⟩ := hc
    have hM : (AV.agg [AV.str ([77, 97, 105, 108, 45, 83, 105, 103, 110, 97, 116, 117, 114, 101] : List UInt8), AV.str (vaS key d ns es bs)] :: es) = sgM key d ns es bs := rfl
    refine Eq.trans (cond_t (and_t hs (and_t hall hbl))) ?_
    unfold siF siB siC siI
    cases h1 : vdC es bs == 0
    · simp only [bne, h1, Bool.not_false, cond_true, cond_false]
      rfl
    simp only [bne, h1, Bool.not_true, cond_false]
    refine Eq.trans (cond_t hd) ?_
    cases h2 : nmS d
    · rfl
    refine Eq.trans (cond_f rfl) (Eq.trans (cond_t (and_t hsn hn)) ?_)
    cases h3 : namB ns
    · rfl
    have hd6 := (nm_len h2).1
    obtain ⟨hn2, hj⟩ := nam_len h3
    rw [← strL_sL hn] at hj
    refine Eq.trans (cond_f rfl) (Eq.trans (cond_t (and_t (and_t hs (and_t hall hn)) (and_t hb (decide_eq_true ⟨by omega, by omega, by omega⟩)))) ?_)
    cases h4 : vaB es bs ns
    · rfl
    have h60 := hv_len (vd_hv h1)
    have hbl' := of_decide_eq_true hbl
    have hvl := vaS_len (key := key) (es := es) (bs := bs) hd6 hj
    refine Eq.trans (cond_f rfl) (Eq.trans (cond_t (decide_eq_true ⟨by omega, hbl'⟩)) ?_)
    rw [hM]
    have hMl : small (sgM key d ns es bs).length = true := decide_eq_true (by show es.length + 1 ≤ _; omega)
    have hMa : (sgM key d ns es bs).all okF = true := by
      show ((small 14 && small (vaS key d ns es bs).length) && es.all okF) = true
      rw [hall, small_t (by omega : (vaS key d ns es bs).length ≤ _)]
      rfl
    refine Eq.trans (cond_t (and_t hMl (and_t hMa hbl))) ?_
    cases h5 : vdC (sgM key d ns es bs) bs == 0
    · simp only [Bool.not_false, Bool.not_true, h5, cond_true, cond_false]
      rfl
    · have h50 : vdC (sgM key d ns es bs) bs = 0 := by simpa using h5
      simp only [Bool.not_true, h50, cond_false]
      rfl
  · cases h
theorem split_mem {p : List UInt8} (hp : p ≠ []) : ∀ (n : Nat) (s : List UInt8), s.length ≤ n → ∀ x ∈ Lib.split s p, x.length ≤ s.length
  | n, s, hn, x, hx => by
    rcases Lib.index_spec s p with ⟨h1, _⟩ | ⟨j, h1, h2, h3, _⟩
    · rw [split_miss h1] at hx
      simp only [List.mem_singleton] at hx
      rw [hx]; exact Nat.le_refl _
    · have hp0 : 0 < p.length := List.length_pos_iff.2 hp
      have hr := Lib.index_room s p (by omega)
      match n with
      | 0 => omega
      | n + 1 =>
        rw [split_hit hp h1] at hx
        rcases List.mem_cons.1 hx with rfl | hx
        · rw [List.length_take]; omega
        · have := split_mem hp n _ (by rw [List.length_drop]; omega) x hx
          rw [List.length_drop] at this
          omega
def shB (m : Nat) (e : AV) : Bool := isS e && decide ((sE e).length ≤ m)
theorem goG_sh (p : Nat → List UInt8) (m : Nat) : ∀ (r : List AV) (i : Nat) (pre : List AV), pre.all (shB m) = true → r.all (shB m) = true → (goG p i pre r).2.2.all (shB m) = true ∧ (goG p i pre r).2.2.length = pre.length + r.length
  | [], i, pre, h1, h2 => ⟨h1, by show _ = _ + 0; rw [Nat.add_zero]; rfl⟩
  | e :: r, i, pre, h1, h2 => by
    rw [List.all_cons, Bool.and_eq_true] at h2
    unfold goG
    cases Lib.hasPrefix (sE e) (p i)
    · refine ⟨?_, by show (pre ++ e :: r).length = _; rw [List.length_append]⟩
      show (pre ++ e :: r).all (shB m) = true
      rw [List.all_append, List.all_cons, h1, h2.1, h2.2]; rfl
    · have ht : shB m (.str (Lib.trimPrefix (sE e) (p i))) = true := by
        have h3 := h2.1
        unfold shB at h3
        simp only [Bool.and_eq_true, decide_eq_true_eq] at h3
        have := Lib.trimPrefix_le (sE e) (p i)
        exact and_t rfl (decide_eq_true (Nat.le_trans this h3.2))
      obtain ⟨a, b⟩ := goG_sh p m r (i + 1) (pre ++ [.str (Lib.trimPrefix (sE e) (p i))]) (by rw [List.all_append, h1, List.all_cons, ht]; rfl) h2.2
      refine ⟨a, b.trans ?_⟩
      rw [List.length_append, List.length_singleton, List.length_cons]; omega
theorem vs_sh (p : Nat → List UInt8) (m : Nat) (v : List UInt8) : (vsL p m v).all (shB v.length) = true ∧ (vsB p m v = true → (vsL p m v).length = m) := by
  have hs : ((Lib.split v [59, 32]).map AV.str).all (shB v.length) = true := by
    refine List.all_eq_true.2 fun e he => ?_
    obtain ⟨x, hx, rfl⟩ := List.mem_map.1 he
    exact and_t rfl (decide_eq_true (split_mem (by decide) v.length v (Nat.le_refl _) x hx))
  obtain ⟨a, b⟩ := goG_sh p v.length ((Lib.split v [59, 32]).map AV.str) 0 [] rfl hs
  unfold vsL
  cases hB : vsB p m v
  · exact ⟨rfl, fun h => by cases h⟩
  · refine ⟨a, fun _ => ?_⟩
    unfold vsB at hB
    simp only [Bool.and_eq_true] at hB
    have he : ((Lib.split v [59, 32]).map AV.str).length = m := Int.ofNat.inj (by simpa using hB.1)
    show (goG p 0 [] ((Lib.split v [59, 32]).map AV.str)).2.2.length = m
    rw [b, he]
    exact Nat.zero_add _
theorem all_getD {P : AV → Bool} {l : List AV} {i : Nat} (h : l.all P = true) (hi : i < l.length) : P (l.getD i .unk) = true := List.all_eq_true.1 h (l.getD i .unk) (by rw [getD_eq hi]; exact List.getElem_mem hi)
def l4 : List UInt8 := [100, 104, 98, 115]
def vs4 (v : List UInt8) : List AV := vsL (pfx l4) l4.length v
def q4 (v : List UInt8) (i : Nat) : List UInt8 := sE ((vs4 v).getD i .unk)
theorem q4_len (v : List UInt8) (i : Nat) (h : vsB (pfx l4) l4.length v = true) (hi : i < 4) : i < (vs4 v).length ∧ (q4 v i).length ≤ v.length := by
  obtain ⟨a, b⟩ := vs_sh (pfx l4) l4.length v
  have hl : (vs4 v).length = 4 := b h
  have := all_getD a (i := i) (by rw [show (vsL (pfx l4) l4.length v).length = 4 from hl]; exact hi)
  unfold shB at this
  simp only [Bool.and_eq_true, decide_eq_true_eq] at this
  exact ⟨by omega, this.2⟩
def nsq (s : List UInt8) : List AV := (Lib.split s [58]).map AV.str
theorem nsq_ok {s : List UInt8} (h : s.length ≤ 1000000) : small (nsq s).length = true ∧ (nsq s).all okN = true ∧ (nsq s).length ≤ 1000001 := by
  have hle := split_le s [58] (by decide)
  have hm : (nsq s).length = (Lib.split s [58]).length := List.length_map _
  refine ⟨decide_eq_true (by omega), List.all_eq_true.2 fun e he => ?_, by omega⟩
  obtain ⟨x, hx, rfl⟩ := List.mem_map.1 he
  have := split_mem (p := [58]) (by decide) s.length s (Nat.le_refl _) x hx
  exact and_t rfl (decide_eq_true (by show x.length ≤ _; omega))
theorem nsq_join (s : List UInt8) : Lib.join (strL (nsq s)) [58] = s := by
  unfold nsq
  rw [strL_map]
  exact join_split (by decide) s.length s (Nat.le_refl _)
noncomputable def G57 : Env := { pure := [(68, ofT F68), (69, ofT F69), (70, ofT F70), (42, ofT F19), (44, ofT F44), (45, ofT F45), (84, ofT F84p)] }
theorem g57 : GOK Tryz.prog G57 := GOK.also (GOK.also (GOK.also (GOK.also (GOK.also (GOK.also (GOK.also g0 ok84p) ok45) ok44) ok42') ok70) ok69) ok68
def vkB (v : List UInt8) : Bool := vsB (pfx l4) l4.length v && (nmS (q4 v 0) && (namB (nsq (q4 v 1)) && (hexB (q4 v 2) && hexB (q4 v 3))))
def veD (v : List UInt8) : List UInt8 := bif vkB v then q4 v 0 else []
def veR (es bs kk : List AV) (v : List UInt8) : Int := bif !vkB v then 4 else bif !keyB kk (q4 v 0) then 3 else bif vaS (keyV kk (q4 v 0)) (q4 v 0) (nsq (q4 v 1)) es bs == v then 1 else 2
def F57 : List AV → Tr AV
  | [.agg [.slv (.agg [.str, .str]) es, .slv (.int .u8) bs], .str v, .slv (.agg [.str, .int .u64]) kk] => .gd ((small es.length && es.all okF) && (bs.all bE && (decide (v.length ≤ 100000) && small kk.length))) (.leaf (.agg [.str (veD v), .int .i64 (veR es bs kk v)]))
  | _ => .no
theorem ok57 : SumOK Tryz.prog 57 (ofT F57) ∧ SNat (ofT F57) := by
  refine fn0 g57 Tryz.func57 (by kernel_rfl) fun ρ avs k r h => ?_
  unfold F57 at h
  split at h
  · rename_i es bs v kk
    obtain ⟨hc, hk⟩ := gd_some h
    refine Eq.trans (b := bif decide (v.length ≤ (1000000 : Nat) ∧ ([100, 104, 98, 115] : List UInt8).length ≤ (100 : Nat)) then bif !vsB (pfx ([100, 104, 98, 115] : List UInt8)) ([100, 104, 98, 115] : List UInt8).length v then k (AV.agg [AV.str [], AV.int IntKind.i64 (4 : Int)]) else bif inb (0 : Int) (vs4 v).length then bif small (q4 v 0).length then bif !nmS (q4 v 0) then k (AV.agg [AV.str [], AV.int IntKind.i64 (4 : Int)]) else bif inb (1 : Int) (vs4 v).length then bif decide ((q4 v 1).length < (4294967281 : Nat)) && decide ((1 : Nat) ≤ ([58] : List UInt8).length) then bif small (List.map AV.str (Lib.split (q4 v 1) ([58] : List UInt8))).length && (List.map AV.str (Lib.split (q4 v 1) ([58] : List UInt8))).all okN then bif !namB (List.map AV.str (Lib.split (q4 v 1) ([58] : List UInt8))) then k (AV.agg [AV.str [], AV.int IntKind.i64 (4 : Int)]) else bif inb (2 : Int) (vs4 v).length then bif small (q4 v 2).length then bif !hexB (q4 v 2) then k (AV.agg [AV.str [], AV.int IntKind.i64 (4 : Int)]) else bif inb (3 : Int) (vs4 v).length then bif small (q4 v 3).length then bif !hexB (q4 v 3) then k (AV.agg [AV.str [], AV.int IntKind.i64 (4 : Int)]) else bif inb (0 : Int) (vs4 v).length then bif small kk.length then bif !keyB kk (q4 v 0) then bif inb (0 : Int) (vs4 v).length then k (AV.agg [AV.str (q4 v 0), AV.int IntKind.i64 (3 : Int)]) else none else bif inb (0 : Int) (vs4 v).length then bif inb (1 : Int) (vs4 v).length then bif decide ((q4 v 1).length < (4294967281 : Nat)) && decide ((1 : Nat) ≤ ([58] : List UInt8).length) then bif small es.length && (es.all okF && (List.map AV.str (Lib.split (q4 v 1) ([58] : List UInt8))).all okN) && (bs.all bE && decide ((q4 v 0).length ≤ (1000000 : Nat) ∧ (List.map AV.str (Lib.split (q4 v 1) ([58] : List UInt8))).length ≤ (1000000 : Nat) ∧ (Lib.join (strL (List.map AV.str (Lib.split (q4 v 1) ([58] : List UInt8)))) [(58 : UInt8)]).length ≤ (1000000 : Nat))) then bif !vaS (keyV kk (q4 v 0)) (q4 v 0) (List.map AV.str (Lib.split (q4 v 1) ([58] : List UInt8))) es bs == v then bif inb (0 : Int) (vs4 v).length then k (AV.agg [AV.str (q4 v 0), AV.int IntKind.i64 (2 : Int)]) else none else bif inb (0 : Int) (vs4 v).length then k (AV.agg [AV.str (q4 v 0), AV.int IntKind.i64 (1 : Int)]) else none else none else none else none else none else none else none else none else none else none else none else none else none else none else none else none else none) (by kernel_rfl) ?_
    rw [← hk]
    simp only [Bool.and_eq_true] at hc
    obtain ⟨⟨hs, hall⟩, hb, hv, hkk⟩ := hc
    have hv' := of_decide_eq_true hv
    unfold veD veR vkB
    refine Eq.trans (cond_t (decide_eq_true ⟨by omega, by decide⟩)) ?_
    have hl4 : (pfx ([100, 104, 98, 115] : List UInt8)) = pfx l4 := rfl
    have hl5 : ([100, 104, 98, 115] : List UInt8).length = l4.length := rfl
    rw [hl4, hl5]
    cases h1 : vsB (pfx l4) l4.length v
    · rfl
    obtain ⟨i0, n0⟩ := q4_len v 0 h1 (by decide)
    obtain ⟨i1, n1⟩ := q4_len v 1 h1 (by decide)
    obtain ⟨i2, n2⟩ := q4_len v 2 h1 (by decide)
    obtain ⟨i3, n3⟩ := q4_len v 3 h1 (by decide)
    have j0 : inb 0 (vs4 v).length = true := inb_true (by omega) (by omega)
    have j1 : inb 1 (vs4 v).length = true := inb_true (by omega) (by omega)
    have j2 : inb 2 (vs4 v).length = true := inb_true (by omega) (by omega)
    have j3 : inb 3 (vs4 v).length = true := inb_true (by omega) (by omega)
    have hq : (List.map AV.str (Lib.split (q4 v 1) [58])) = nsq (q4 v 1) := rfl
    obtain ⟨m1, m2, m3⟩ := nsq_ok (s := q4 v 1) (by omega)
    rw [hq]
    refine Eq.trans (cond_f rfl) (Eq.trans (cond_t j0) (Eq.trans (cond_t (small_t (by omega))) ?_))
    cases h2 : nmS (q4 v 0)
    · rfl
    refine Eq.trans (cond_f rfl) (Eq.trans (cond_t j1) (Eq.trans (cond_t (and_t (decide_eq_true (by omega)) rfl)) (Eq.trans (cond_t (and_t m1 m2)) ?_)))
    cases h3 : namB (nsq (q4 v 1))
    · rfl
    refine Eq.trans (cond_f rfl) (Eq.trans (cond_t j2) (Eq.trans (cond_t (small_t (by omega))) ?_))
    cases h4 : hexB (q4 v 2)
    · rfl
    refine Eq.trans (cond_f rfl) (Eq.trans (cond_t j3) (Eq.trans (cond_t (small_t (by omega))) ?_))
    cases h5 : hexB (q4 v 3)
    · rfl
    refine Eq.trans (cond_f rfl) (Eq.trans (cond_t j0) (Eq.trans (cond_t hkk) ?_))
    cases h6 : keyB kk (q4 v 0)
    · refine Eq.trans (cond_t rfl) (Eq.trans (cond_t j0) rfl)
    refine Eq.trans (cond_f rfl) (Eq.trans (cond_t j0) (Eq.trans (cond_t j1) (Eq.trans (cond_t (and_t (decide_eq_true (by omega)) rfl)) (Eq.trans (cond_t (and_t (and_t hs (and_t hall m2)) (and_t hb (decide_eq_true ⟨by omega, by have := (nam_len h3).1; omega, by rw [nsq_join]; omega⟩)))) ?_))))
    cases vaS (keyV kk (q4 v 0)) (q4 v 0) (nsq (q4 v 1)) es bs == v
    · exact Eq.trans (cond_t rfl) (Eq.trans (cond_t j0) rfl)
    · exact Eq.trans (cond_f rfl) (Eq.trans (cond_t j0) rfl)
  · cases h
noncomputable def G29 : Env := { pure := [(58, ofT F58), (59, ofT F59), (19, ofT F19), (21, ofT F44)], opens := [(60, ofX F60)] }
theorem g29 : GOK Tryz.prog G29 := GOK.alsoX (GOK.also (GOK.also (GOK.also (GOK.also g0 ok21) ok19) ok59) ok58) ok60
def k4 : List AV := [.str [100, 61], .str [104, 61], .str [98, 61], .str [115, 61]]
def vk4 (v : List UInt8) : List AV := vsL (kfx k4) k4.length v
def r4 (v : List UInt8) (i : Nat) : List UInt8 := sE ((vk4 v).getD i .unk)
def F29 : List AV → Tr AV
  | [.str v] => .gd (decide (v.length ≤ 100000)) (.leaf (.tup [.str (bif vsB (pfx l4) l4.length v then q4 v 0 else []), .slv .str (bif vsB (pfx l4) l4.length v then nsq (q4 v 1) else []), .bool (vkB v)]))
  | _ => .no
theorem ok29 : SumOK Tryz.prog 29 (ofT F29) ∧ SNat (ofT F29) := by
  refine fn0 g29 Tryz.func29 (by kernel_rfl) fun ρ avs k r h => ?_
  unfold F29 at h
  split at h
  · rename_i v
    obtain ⟨hc, hk⟩ := gd_some h
    refine Eq.trans (b := bif decide (v.length ≤ (1000000 : Nat)) && (([AV.str [(100 : UInt8), (61 : UInt8)], AV.str [(104 : UInt8), (61 : UInt8)], AV.str [(98 : UInt8), (61 : UInt8)], AV.str [(115 : UInt8), (61 : UInt8)]].all fun k => decide ((sE k).length = (2 : Nat))) && decide ([AV.str [(100 : UInt8), (61 : UInt8)], AV.str [(104 : UInt8), (61 : UInt8)], AV.str [(98 : UInt8), (61 : UInt8)], AV.str [(115 : UInt8), (61 : UInt8)]].length ≤ (100 : Nat))) then bif !vsB (kfx [AV.str [(100 : UInt8), (61 : UInt8)], AV.str [(104 : UInt8), (61 : UInt8)], AV.str [(98 : UInt8), (61 : UInt8)], AV.str [(115 : UInt8), (61 : UInt8)]]) [AV.str [(100 : UInt8), (61 : UInt8)], AV.str [(104 : UInt8), (61 : UInt8)], AV.str [(98 : UInt8), (61 : UInt8)], AV.str [(115 : UInt8), (61 : UInt8)]].length v then k (AV.tup [AV.str [], AV.slv Sh.str [], AV.bool false]) else bif inb (2 : Int) (vk4 v).length then bif small (r4 v 2).length then bif inb (3 : Int) (vk4 v).length then bif small (r4 v 3).length then bif inb (1 : Int) (vk4 v).length then bif decide ((r4 v 1).length ≤ (1000000 : Nat)) && decide ((1 : Nat) ≤ ([58] : List UInt8).length ∧ ([58] : List UInt8).length ≤ (1000000 : Nat)) then bif inb (0 : Int) (vk4 v).length then bif hexB (r4 v 2) then bif hexB (r4 v 3) then bif inb (0 : Int) (vk4 v).length then bif small (r4 v 0).length then bif nmS (r4 v 0) then bif small (List.map AV.str (Lib.split (r4 v 1) ([58] : List UInt8))).length && (List.map AV.str (Lib.split (r4 v 1) ([58] : List UInt8))).all okN then k (AV.tup [AV.str (r4 v 0), AV.slv Sh.str (List.map AV.str (Lib.split (r4 v 1) ([58] : List UInt8))), AV.bool (namB (List.map AV.str (Lib.split (r4 v 1) ([58] : List UInt8))))]) else none else k (AV.tup [AV.str (r4 v 0), AV.slv Sh.str (List.map AV.str (Lib.split (r4 v 1) ([58] : List UInt8))), AV.bool false]) else none else none else k (AV.tup [AV.str (r4 v 0), AV.slv Sh.str (List.map AV.str (Lib.split (r4 v 1) ([58] : List UInt8))), AV.bool false]) else k (AV.tup [AV.str (r4 v 0), AV.slv Sh.str (List.map AV.str (Lib.split (r4 v 1) ([58] : List UInt8))), AV.bool false]) else none else none else none else none else none else none else none else none) (by kernel_rfl) ?_
    rw [← hk]
    have hv' := of_decide_eq_true hc
    unfold vkB
    refine Eq.trans (cond_t (and_t (decide_eq_true (by omega)) rfl)) ?_
    have hcg := vs_congr (p := kfx k4) (q := pfx l4) (m := l4.length) (by decide) v
    have hB : vsB (kfx [AV.str [100, 61], AV.str [104, 61], AV.str [98, 61], AV.str [115, 61]]) [AV.str [100, 61], AV.str [104, 61], AV.str [98, 61], AV.str [115, 61]].length v = vsB (pfx l4) l4.length v := hcg.1
    have hL : vk4 v = vs4 v := hcg.2
    have hr : ∀ i, r4 v i = q4 v i := fun i => by unfold r4 q4; rw [hL]
    simp only [hB, hL, hr]
    cases h1 : vsB (pfx l4) l4.length v
    · rfl
    obtain ⟨i0, n0⟩ := q4_len v 0 h1 (by decide)
    obtain ⟨i1, n1⟩ := q4_len v 1 h1 (by decide)
    obtain ⟨i2, n2⟩ := q4_len v 2 h1 (by decide)
    obtain ⟨i3, n3⟩ := q4_len v 3 h1 (by decide)
    have j0 : inb 0 (vs4 v).length = true := inb_true (by omega) (by omega)
    have j1 : inb 1 (vs4 v).length = true := inb_true (by omega) (by omega)
    have j2 : inb 2 (vs4 v).length = true := inb_true (by omega) (by omega)
    have j3 : inb 3 (vs4 v).length = true := inb_true (by omega) (by omega)
    have hq : (List.map AV.str (Lib.split (q4 v 1) [58])) = nsq (q4 v 1) := rfl
    obtain ⟨m1, m2, m3⟩ := nsq_ok (s := q4 v 1) (by omega)
    rw [hq]
    refine Eq.trans (cond_f rfl) (Eq.trans (cond_t j2) (Eq.trans (cond_t (small_t (by omega))) (Eq.trans (cond_t j3) (Eq.trans (cond_t (small_t (by omega))) (Eq.trans (cond_t j1) (Eq.trans (cond_t (and_t (decide_eq_true (by omega)) rfl)) (Eq.trans (cond_t j0) ?_)))))))
    cases h4 : hexB (q4 v 2)
    · cases nmS (q4 v 0) <;> cases namB (nsq (q4 v 1)) <;> rfl
    refine Eq.trans (cond_t rfl) ?_
    cases h5 : hexB (q4 v 3)
    · cases nmS (q4 v 0) <;> cases namB (nsq (q4 v 1)) <;> rfl
    refine Eq.trans (cond_t rfl) (Eq.trans (cond_t j0) (Eq.trans (cond_t (small_t (by omega))) ?_))
    cases h2 : nmS (q4 v 0)
    · rfl
    refine Eq.trans (cond_t rfl) (Eq.trans (cond_t (and_t m1 m2)) ?_)
    cases namB (nsq (q4 v 1)) <;> rfl
  · cases h
end Go.Proofs.YthdhfmdhjanoaaaGreatDoor


namespace Go.Proofs.YthdhfmdhjanoaaaGreatDoor
open Go.Ev
theorem by54 : Tryz.prog.bytesOf 54 ≤ 1000 := of_decide_eq_true (by kernel_rfl)
noncomputable def G26 : Env := { pure := [(18, ofT F18), (53, ofT F53), (56, ofT F56), (57, ofT F57), (41, evF Tryz.prog G0 [] Tryz.f41), (47, evF Tryz.prog G0 [] Tryz.f47)] }
theorem g26 : GOK Tryz.prog G26 := GOK.also (GOK.also (GOK.also (GOK.also (GOK.also (GOK.also g0 (inl g0 Tryz.func47 (by kernel_rfl))) (inl g0 Tryz.func41 (by kernel_rfl))) ok57) ok56) ok53) ok18
noncomputable def b26 : Code := ((Tryz.f26.body.map loopsOf).getD []).headD .skip
def veE (es bs kk : List AV) (e : AV) : AV := .agg [.str (veD (fV e)), .int .i64 (veR es bs kk (fV e))]
def veL (es bs kk l : List AV) : List AV := (l.filter fun e => eqF (fN e) sgF).map (veE es bs kk)
theorem veL_cons (es bs kk : List AV) (e : AV) (l : List AV) : veL es bs kk (e :: l) = bif eqF (fN e) sgF then veE es bs kk e :: veL es bs kk l else veL es bs kk l := by
  unfold veL
  rw [List.filter_cons]
  cases eqF (fN e) sgF <;> rfl
def L26 : List AV → List (Option Row) → Tr LOut
  | [.slv (.agg [.str, .int .u64]) kk, .ptr 0 0, .ptr 2 0, .own 900, .slv (.agg [.str, .str]) es, .int .i64 m, .int .i64 i], [some (.box false [.slv (.agg [.str, .str]) es', .slv (.int .u8) bs]), some (.box false [.int .i64 0, .int .i64 0]), some (.arr false (.agg [.str, .int .i64]) e out none)] =>
    .gd ((cnt m i es.length && (es.all okF && es.all okV)) && (((small es'.length && es'.all okF) && (bs.all bE && small kk.length)) && decide (out.length + (es.length - i.toNat) ≤ 1000000 ∧ e = 54))) (.leaf (.exit 0, [.slv (.agg [.str, .int .u64]) kk, .ptr 0 0, .ptr 2 0, .own 900, .slv (.agg [.str, .str]) es, .int .i64 m, .int .i64 es.length], [some (.box false [.slv (.agg [.str, .str]) es', .slv (.int .u8) bs]), some (.box false [.int .i64 0, .int .i64 0]), some (.arr false (.agg [.str, .int .i64]) e (out ++ veL es' bs kk (es.drop i.toNat)) none)]))
  | _, _ => .no
def l26 : Ev.Loop := ⟨{ len := 42, slots := [1, 2, 5, 8, 22, 23, 24], rows := [0, 2, 900], homes := [(8, 900, 54)] }, ofL L26⟩
def μ26 (vs : List AV) (_ : List (Option Row)) : Nat := match vs with
  | [_, _, _, _, _, .int _ n, .int _ i] => (n - i).toNat
  | _ => 0
theorem loop26 : LoopOK Tryz.prog G26 [(9, l26)] b26 l26 := by
  refine loopT g26.natOK rfl (KOK.nil (by kernel_rfl)) μ26 (fun ρ vs rs k r h => ?_)
  unfold L26 at h
  split at h
  · rename_i kk es m i es' bs e out
    obtain ⟨hc, hk⟩ := gd_some h
    simp only [Bool.and_eq_true] at hc
    obtain ⟨⟨hc, hall, hv⟩, ⟨⟨hs', hall'⟩, hb, hkk⟩, hbd⟩ := hc
    obtain ⟨hbd, rfl⟩ := of_decide_eq_true hbd
    refine Eq.trans (b := bif decide (i < m) then bif inb i es.length then bif small (fN (es.getD i.toNat AV.unk)).length && small ([77, 97, 105, 108, 45, 83, 105, 103, 110, 97, 116, 117, 114, 101] : List UInt8).length then bif eqF (fN (es.getD i.toNat AV.unk)) ([77, 97, 105, 108, 45, 83, 105, 103, 110, 97, 116, 117, 114, 101] : List UInt8) then bif small es'.length && es'.all okF && (bs.all bE && (decide ((fV (es.getD i.toNat AV.unk)).length ≤ (100000 : Nat)) && small kk.length)) then bif roomB (out.length + [AV.agg [AV.str (veD (fV (es.getD i.toNat AV.unk))), AV.int IntKind.i64 (veR es' bs kk (fV (es.getD i.toNat AV.unk)))]].length) (Tryz.prog.bytesOf (54 : Nat)) then bif decide ((m - IntKind.i64.wrap (i + (1 : Int))).toNat < (m - i).toNat) then bif cnt m (IntKind.i64.wrap (i + (1 : Int))) es.length && (es.all okF && es.all okV) && (small es'.length && es'.all okF && (bs.all bE && small kk.length) && decide ((out ++ [AV.agg [AV.str (veD (fV (es.getD i.toNat AV.unk))), AV.int IntKind.i64 (veR es' bs kk (fV (es.getD i.toNat AV.unk)))]]).length + (es.length - (IntKind.i64.wrap (i + (1 : Int))).toNat) ≤ (1000000 : Nat) ∧ (54 : Nat) = (54 : TypeId))) then k (Ex.exit (0 : Nat)) [AV.slv (Sh.agg [Sh.str, Sh.int IntKind.u64]) kk, AV.ptr (0 : Nat) (0 : Nat), AV.ptr (2 : Nat) (0 : Nat), AV.own (900 : Nat), AV.slv (Sh.agg [Sh.str, Sh.str]) es, AV.int IntKind.i64 m, AV.int IntKind.i64 (↑es.length : Int)] [some (Row.box false [AV.slv (Sh.agg [Sh.str, Sh.str]) es', AV.slv (Sh.int IntKind.u8) bs]), some (Row.box false [AV.int IntKind.i64 (0 : Int), AV.int IntKind.i64 (0 : Int)]), some (Row.arr false (Sh.agg [Sh.str, Sh.int IntKind.i64]) (54 : Nat) (out ++ [AV.agg [AV.str (veD (fV (es.getD i.toNat AV.unk))), AV.int IntKind.i64 (veR es' bs kk (fV (es.getD i.toNat AV.unk)))]] ++ veL es' bs kk (List.drop (IntKind.i64.wrap (i + (1 : Int))).toNat es)) none)] else none else none else none else none else bif decide ((m - IntKind.i64.wrap (i + (1 : Int))).toNat < (m - i).toNat) then bif cnt m (IntKind.i64.wrap (i + (1 : Int))) es.length && (es.all okF && es.all okV) && (small es'.length && es'.all okF && (bs.all bE && small kk.length) && decide (out.length + (es.length - (IntKind.i64.wrap (i + (1 : Int))).toNat) ≤ (1000000 : Nat) ∧ (54 : TypeId) = (54 : TypeId))) then k (Ex.exit (0 : Nat)) [AV.slv (Sh.agg [Sh.str, Sh.int IntKind.u64]) kk, AV.ptr (0 : Nat) (0 : Nat), AV.ptr (2 : Nat) (0 : Nat), AV.own (900 : Nat), AV.slv (Sh.agg [Sh.str, Sh.str]) es, AV.int IntKind.i64 m, AV.int IntKind.i64 (↑es.length : Int)] [some (Row.box false [AV.slv (Sh.agg [Sh.str, Sh.str]) es', AV.slv (Sh.int IntKind.u8) bs]), some (Row.box false [AV.int IntKind.i64 (0 : Int), AV.int IntKind.i64 (0 : Int)]), some (Row.arr false (Sh.agg [Sh.str, Sh.int IntKind.i64]) (54 : Nat) (out ++ veL es' bs kk (List.drop (IntKind.i64.wrap (i + (1 : Int))).toNat es)) none)] else none else none else none else none else k (Ex.exit (0 : Nat)) [AV.slv (Sh.agg [Sh.str, Sh.int IntKind.u64]) kk, AV.ptr (0 : Nat) (0 : Nat), AV.ptr (2 : Nat) (0 : Nat), AV.own (900 : Nat), AV.slv (Sh.agg [Sh.str, Sh.str]) es, AV.int IntKind.i64 m, AV.int IntKind.i64 i] [some (Row.box false [AV.slv (Sh.agg [Sh.str, Sh.str]) es', AV.slv (Sh.int IntKind.u8) bs]), some (Row.box false [AV.int IntKind.i64 (0 : Int), AV.int IntKind.i64 (0 : Int)]), some (Row.arr false (Sh.agg [Sh.str, Sh.int IntKind.i64]) (54 : Nat) out none)]) (by kernel_rfl) ?_
    rw [← hk]
    obtain ⟨rfl, hs, j, rfl, hj⟩ := cnt_spec hc
    rw [Int.toNat_natCast] at hbd
    simp only [Int.toNat_natCast]
    by_cases hlt : j < es.length
    · obtain ⟨e1, e2, e3, e4, e5⟩ := cnt_facts hlt hs
      have hok : (small (fN (es.getD j .unk)).length && small (fV (es.getD j .unk)).length) = true := all_getD (P := okF) hall hlt
      simp only [Bool.and_eq_true] at hok
      have hov : okV (es.getD j .unk) = true := all_getD hv hlt
      obtain ⟨v1, v2⟩ : (fN (es.getD j .unk)).length ≤ 60 ∧ (fV (es.getD j .unk)).length ≤ 4000 := of_decide_eq_true hov
      have r9 : ∀ x : AV, roomB (out.length + [x].length) (Tryz.prog.bytesOf 54) = true := fun x => roomB_small (by show _ + 1 ≤ _; omega) by54
      have g1 : ∀ x : AV, decide ((out ++ [x]).length + (es.length - (j + 1)) ≤ 1000000 ∧ True) = true := fun x => decide_eq_true ⟨by rw [List.length_append, List.length_singleton]; omega, trivial⟩
      have g0' : decide (out.length + (es.length - (j + 1)) ≤ 1000000 ∧ True) = true := decide_eq_true ⟨by omega, trivial⟩
      have hv1 : decide ((fV (es.getD j .unk)).length ≤ 100000) = true := decide_eq_true (by omega)
      have hsg : ([77, 97, 105, 108, 45, 83, 105, 103, 110, 97, 116, 117, 114, 101] : List UInt8) = sgF := rfl
      have hsm : small sgF.length = true := rfl
      rw [drop_getD hlt, veL_cons]
      simp only [hsg, hsm, e1, e2, e3, e4, e5, hok.1, hall, hv, hs', hall', hb, hkk, hv1, r9, g1, g0', cond_true, Bool.and_true, Int.toNat_natCast]
      cases eqF (fN (es.getD j .unk)) sgF
      · rfl
      · simp only [cond_true, List.append_assoc]
        rfl
    · obtain rfl : j = es.length := by omega
      rw [decide_eq_false (by omega), List.drop_length]
      show k _ _ [_, _, some (.arr false (.agg [.str, .int .i64]) 54 out none)] = k _ _ [_, _, some (.arr false (.agg [.str, .int .i64]) 54 (out ++ []) none)]
      rw [List.append_nil]
  · cases h
def vfC (es bs kk : List AV) : Int := bif !(vdC es bs == 0) then vdC es bs else kyC kk
def vfI (es bs kk : List AV) : Int := bif !(vdC es bs == 0) then vdI es bs else kyI kk
def vfL (es bs kk : List AV) : List AV := bif vfC es bs kk == 0 then veL es bs kk es else []
def F26 : List AV → Tr AV
  | [.agg [.slv (.agg [.str, .str]) es, .slv (.int .u8) bs], .slv (.agg [.str, .int .u64]) kk] => .gd ((small es.length && es.all okF) && ((bs.all bE && decide (bs.length ≤ 141000000000000)) && (small kk.length && kk.all okK))) (.leaf (.tup [.slv (.agg [.str, .int .i64]) (vfL es bs kk), .agg [.int .i64 (vfC es bs kk), .int .i64 (vfI es bs kk)]]))
  | _ => .no
theorem kyI_zero {kk : List AV} (h : (kyC kk == 0) = true) : kyI kk = 0 := by
  unfold kyC at h
  unfold kyI
  cases h1 : decide ((kk.length : Int) > 60)
  · rw [h1] at h
    cases h2 : (findN (kbE kk) kk.length 0).isSome
    · rfl
    · rw [h2] at h; cases h
  · rw [h1] at h; cases h
theorem ok26 : SumOK Tryz.prog 26 (ofT F26) ∧ SNat (ofT F26) := by
  refine fn1 (K := [(9, l26)]) (b := b26) (l := l26) g26 Tryz.func26 (by kernel_rfl) (by kernel_rfl) loop26 fun ρ avs k r h => ?_
  unfold F26 at h
  split at h
  · rename_i es bs kk
    obtain ⟨hc, hk⟩ := gd_some h
    simp only [Bool.and_eq_true] at hc
    obtain ⟨⟨hs, hall⟩, ⟨hb, hbl⟩, hkk, hka⟩ := hc
    refine Eq.trans (b := bif small es.length && (es.all okF && decide (bs.length ≤ (141000000000000 : Nat))) then bif vdC es bs != (0 : Int) then k (AV.tup [AV.slv (Sh.agg [Sh.str, Sh.int IntKind.i64]) [], AV.agg [AV.int IntKind.i64 (vdC es bs), AV.int IntKind.i64 (vdI es bs)]]) else bif small kk.length && kk.all okK then bif kyC kk != (0 : Int) then k (AV.tup [AV.slv (Sh.agg [Sh.str, Sh.int IntKind.i64]) [], AV.agg [AV.int IntKind.i64 (kyC kk), AV.int IntKind.i64 (kyI kk)]]) else bif cnt (↑es.length : Int) (0 : Int) es.length && (es.all okF && es.all okV) && (small es.length && es.all okF && (bs.all bE && small kk.length) && decide (([] : List AV).length + (es.length - Int.toNat (0 : Int)) ≤ (1000000 : Nat) ∧ ((8 : Nat), (900 : Nat), (54 : TypeId)).snd.snd = (54 : TypeId))) then k (AV.tup [AV.slv (Sh.agg [Sh.str, Sh.int IntKind.i64]) ([] ++ veL es bs kk (List.drop (0 : Nat) es)), AV.agg [AV.int IntKind.i64 (0 : Int), AV.int IntKind.i64 (0 : Int)]]) else none else none else none) (by kernel_rfl) ?_
    rw [← hk]
    refine Eq.trans (cond_t (and_t hs (and_t hall hbl))) ?_
    unfold vfL vfI
    unfold vfC
    cases h1 : vdC es bs == 0
    · simp only [bne, h1, Bool.not_false, cond_true, cond_false]
      rfl
    simp only [bne, h1, Bool.not_true, cond_false]
    refine Eq.trans (cond_t (and_t hkk hka)) ?_
    cases h2 : kyC kk == 0
    · rfl
    have h60 := hv_len (vd_hv h1)
    have hv := hv_ok (vd_hv h1)
    have hk0 : kyC kk = 0 := by simpa using h2
    refine Eq.trans (cond_f rfl) (Eq.trans (cond_t (and_t (and_t (cnt_zero hs) (and_t hall hv)) (and_t (and_t (and_t hs hall) (and_t hb hkk)) (decide_eq_true ⟨by show 0 + (es.length - 0) ≤ _; omega, by first | trivial | rfl⟩)))) ?_)
    rw [kyI_zero h2, hk0, List.drop_zero, List.nil_append]
    rfl
  · cases h
noncomputable def G16 : Env := { pure := [(14, ofT F14), (17, ofT F17), (26, ofT F26), (40, evF Tryz.prog GC [] Tryz.f40)], fork := true }
theorem g16 : GOK Tryz.prog G16 := GOK.flags (GOK.also (GOK.also (GOK.also (GOK.also g0 (inl gc Tryz.func40 (by kernel_rfl))) ok26) ok17) ok14)
def F16 : List AV → Tr AV
  | [] => .leaf (.bool true)
  | _ => .no
theorem ok16 : SumOK Tryz.prog 16 (ofT F16) ∧ SNat (ofT F16) := by
  refine fn0 g16 Tryz.func16 (by kernel_rfl) fun ρ avs k r h => ?_
  unfold F16 at h
  split at h
  · refine Eq.trans (b := k (.bool true)) (by kernel_rfl) h
  · cases h
end Go.Proofs.YthdhfmdhjanoaaaGreatDoor

/-
  What a law is called with, taken apart by its shape; the frame of a law's statement.
-/
namespace Go.Ev
theorem has_int {k : IntKind} {v : AV} (h : has1 (.int k) v = true) : ∃ n, v = .int k n := by
  cases v <;> simp [has1] at h
  rename_i k' n
  exact ⟨n, by rw [h]⟩
theorem has_bool {v : AV} (h : has1 .bool v = true) : ∃ b, v = .bool b := by
  cases v <;> simp [has1] at h
  exact ⟨_, rfl⟩
theorem has_str {v : AV} (h : has1 .str v = true) : ∃ s, v = .str s := by
  cases v <;> simp [has1] at h
  exact ⟨_, rfl⟩
theorem has_slice {s : Sh} {v : AV} (h : has1 (.slice s) v = true) (hf : Fit v) : ∃ es, v = .slv s es ∧ small es.length = true ∧ (∀ e ∈ es, hasSh s e = true) ∧ ∀ e ∈ es, Fit e := by
  cases hf with
  | slv s' es hm hs hfe =>
    simp only [has1] at h
    have e := Sh.beq_eq _ _ h
    subst e
    exact ⟨es, rfl, decide_eq_true (Nat.le_trans hm (by decide)), hs, hfe⟩
  | _ => simp [has1] at h
theorem hass_cons {s : Sh} {l : List Sh} {cs : List AV} (h : hass (s :: l) cs = true) : ∃ c cs', cs = c :: cs' ∧ has1 s c = true ∧ hass l cs' = true := by
  cases cs with
  | nil => simp [hass] at h
  | cons c cs' => simp only [hass, Bool.and_eq_true] at h; exact ⟨c, cs', rfl, h.1, h.2⟩
theorem hass_nil {cs : List AV} (h : hass [] cs = true) : cs = [] := by
  cases cs with
  | nil => rfl
  | cons c cs' => simp [hass] at h
theorem has_agg {l : List Sh} {v : AV} (h : hasSh (.agg l) v = true) : ∃ cs, v = .agg cs ∧ hass l cs = true := by
  cases v <;> simp [hasSh] at h
  exact ⟨_, rfl, h⟩
theorem Fit.agg_inv {cs : List AV} (h : Fit (.agg cs)) : ∀ c ∈ cs, Fit c := by
  cases h with
  | agg _ h => exact h
theorem Fit.str_inv {s : List UInt8} (h : Fit (.str s)) : s.length ≤ 140737488351232 := by
  cases h with
  | str _ h => exact h
theorem has_sliceR {s : Sh} {v : AV} (h : has1 (.slice s) v = true) (hf : Fit v) : ∃ es, v = .slv s es ∧ es.length ≤ 140737488351232 ∧ (∀ e ∈ es, hasSh s e = true) ∧ ∀ e ∈ es, Fit e := by
  cases hf with
  | slv s' es hm hs hfe =>
    simp only [has1] at h
    have e := Sh.beq_eq _ _ h
    subst e
    exact ⟨es, rfl, hm, hs, hfe⟩
  | _ => simp [has1] at h
theorem Fit.int_inv {k : IntKind} {n : Int} (h : Fit (.int k n)) : (Lit.int k n).wf = true := by
  cases h with
  | int _ _ h => exact h
theorem hasAll_cons {s : Sh} {l : List Sh} {cs : List AV} (h : hasAll (s :: l) cs = true) : ∃ c cs', cs = c :: cs' ∧ hasSh s c = true ∧ hasAll l cs' = true := by
  cases cs with
  | nil => simp [hasAll] at h
  | cons c cs' => simp only [hasAll, Bool.and_eq_true] at h; exact ⟨c, cs', rfl, h.1, h.2⟩
theorem hasAll_nil {cs : List AV} (h : hasAll [] cs = true) : cs = [] := by
  cases cs with
  | nil => rfl
  | cons c cs' => simp [hasAll] at h
end Go.Ev
namespace Go.Proofs.YthdhfmdhjanoaaaGreatDoor
open Go.Ev

def bk (H : Type) : BK H := ⟨Rows.uptoBulk, Rows.uptoBulkAll, fun _ => rfl, fun l => by cases l <;> simp [Rows.uptoBulk], Nat.le_refl _, fun _ => rfl, fun _ _ => rfl, rfl, fun _ _ => rfl⟩
theorem own : ownKnob Tryz.prog.godebug = none := by kernel_rfl

end Go.Proofs.YthdhfmdhjanoaaaGreatDoor


namespace Go.Proofs.YthdhfmdhjanoaaaGreatDoor
open Go.Ev
theorem hand_shaped {H : Type} {enc : TypeId × Value → H} {a : Assume} {C : Checked} {os : Os} {f : FuncId} {fn : Func} {s : ChangeSpec} {conds : List PathCond} {apart fresh handsOn again : Bool} {X : World → Array Value → Prop}
    (_hX : ∀ (w w' : World) (args : Array Value), w.heap = w'.heap → X w args → X w' args)
    (own : ownKnob C.prog.godebug = none) (started : os.Started) (noInit : C.prog.inits.idxOf? f = none) (hfn : C.prog.funcs[f]? = some fn)
    (witness : ∃ (w : World) (tape : Tape) (i : Input), w.os = os ∧ (w.forCall tape i).Shaped C.prog ∧ i.vars = [] ∧ Input.okWide C.prog (w.forCall tape i) .any w.heap.size f i ∧
      ((s.pre enc C.prog fn conds apart (w.forCall tape i).memory i.args ∧ X (w.forCall tape i).memory i.args) ∧ sizedMet enc C.prog fn (OpenSpec.ofChange s) apart (w.forCall tape i).memory i.args) ∧ a.holds C.prog (lone (Frame.enter C.prog f i.args .normal) [] (w.forCall tape i)))
    (contract : ∀ (W : World) (base : Nat) (args : Array Value) (ds gs : List (DataW H)) (before : List MemPlace),
      (∀ (j : Nat) t v, fn.params[j]? = some t → args[j]? = some v → Value.okWide C.prog W .any base t v) →
      DataW.Whole enc C.prog fn.params.toList s.vars apart W args.toList ds gs before →
      (DataW.weightsEach C.prog (fn.params.toList ++ s.plain.varTypes C.prog) (ds ++ gs)).all (· ≤ reachBytes) = true → W.ShapedOpen C.prog →
      Calls C.prog f args W fun e W' => ∃ v, e = .returned v ∧ s.post enc C.prog fn apart fresh handsOn again W args v W') :
    ReturnsInHanded a C os f .any (fun w args => (s.pre enc C.prog fn conds apart w args ∧ X w args) ∧ sizedMet enc C.prog fn (OpenSpec.ofChange s) apart w args) (s.post enc C.prog fn apart fresh handsOn again) := by
  refine returnsInHanded_of_calls own started noInit witness ?_
  intro w tape i _ hsh _ hok hpre _
  obtain ⟨_, _, _, fn', hfn', _, _, _, _, hval⟩ := hok
  obtain rfl : fn' = fn := Option.some.inj (hfn'.symm.trans hfn)
  obtain ⟨⟨⟨ds, gs, before, hw, _⟩, _⟩, hz⟩ := hpre
  refine (contract (w.forCall tape i) w.heap.size i.args ds gs before hval (DataW.Whole.of_heap (w' := w.forCall tape i) (by rfl) hw) (hz.weights hw) hsh).mono fun e W' ⟨v, he, hp⟩ => ?_
  subst he
  exact ChangeSpec.post_blind hp
theorem kept_cell {w w' : World} {v : Value} (h : w.cell? ⟨0, 0, none⟩ = some v) (hk : Kept (fun b => b < w.heap.size) w w') : w'.cell? ⟨0, 0, none⟩ = some v := by
  have h0 : 0 < w.heap.size := cell_block h
  have := hk.block 0 h0
  unfold World.cell? at h ⊢
  rw [this]
  exact h
theorem glb_of {w : World} (h : w.ShapedOpen Tryz.prog) : Glb (fun b => b < w.heap.size) w := by
  obtain ⟨m, hm⟩ := cell_of_shapedOpen_int (P := Tryz.prog) (w := w) (g := 0) (t := 3) (zero := #[.int .i64 0]) (k := .i64) h (of_decide_eq_true (by kernel_rfl)) (by kernel_rfl) rfl (by kernel_rfl) (by kernel_rfl) Tryz.underlying3
  exact fun w' hk => ⟨m, kept_cell hm hk⟩
end Go.Proofs.YthdhfmdhjanoaaaGreatDoor


namespace Go.Proofs.YthdhfmdhjanoaaaGreatDoor
open Go.Ev
theorem open_field {v : AV} (h : hasSh (.agg [.str, .str]) v = true) (hf : Fit v) : okF v = true ∧ ∃ n x, v = .agg [.str n, .str x] := by
  obtain ⟨cs, rfl, hh⟩ := has_agg h
  obtain ⟨c0, cs, rfl, h0, hh⟩ := hass_cons hh
  obtain ⟨c1, cs, rfl, h1, hh⟩ := hass_cons hh
  obtain rfl := hass_nil hh
  obtain ⟨n, rfl⟩ := has_str h0
  obtain ⟨x, rfl⟩ := has_str h1
  have a := (hf.agg_inv (.str n) (by simp)).str_inv
  have b := (hf.agg_inv (.str x) (by simp)).str_inv
  exact ⟨and_t (decide_eq_true (by show n.length ≤ _; omega)) (decide_eq_true (by show x.length ≤ _; omega)), n, x, rfl⟩
theorem open_byte {v : AV} (h : hasSh (.int .u8) v = true) (hf : Fit v) : bE v = true := by
  obtain ⟨n, rfl⟩ := has_int (k := .u8) (v := v) h
  have := hf.int_inv
  unfold bE
  refine and_t h ?_
  exact this
structure Msg (es bs : List AV) : Prop where
  el : es.length ≤ 140737488351232
  ok : es.all okF = true
  bl : bs.length ≤ 140737488351232
  by_ : bs.all bE = true
theorem Msg.es {es bs : List AV} (h : Msg es bs) : small es.length = true := decide_eq_true (by have := h.el; omega)
theorem Msg.bs {es bs : List AV} (h : Msg es bs) : decide (bs.length ≤ 141000000000000) = true := decide_eq_true (by have := h.bl; omega)
theorem open_msg {v : AV} (h : hasSh (.agg [.slice (.agg [.str, .str]), .slice (.int .u8)]) v = true) (hf : Fit v) : ∃ es bs, v = .agg [.slv (.agg [.str, .str]) es, .slv (.int .u8) bs] ∧ Msg es bs := by
  obtain ⟨cs, rfl, hh⟩ := has_agg h
  obtain ⟨c0, cs, rfl, h0, hh⟩ := hass_cons hh
  obtain ⟨c1, cs, rfl, h1, hh⟩ := hass_cons hh
  obtain rfl := hass_nil hh
  obtain ⟨es, rfl, e1, e2, e3⟩ := has_sliceR h0 (hf.agg_inv c0 (by simp))
  obtain ⟨bs, rfl, b1, b2, b3⟩ := has_sliceR h1 (hf.agg_inv c1 (by simp))
  exact ⟨es, bs, rfl, e1, List.all_eq_true.2 fun e he => (open_field (e2 e he) (e3 e he)).1, b1, List.all_eq_true.2 fun e he => open_byte (b2 e he) (b3 e he)⟩
structure Nms (ns : List AV) : Prop where
  nl : ns.length ≤ 140737488351232
  ok : ns.all okN = true
theorem Nms.ns {ns : List AV} (h : Nms ns) : small ns.length = true := decide_eq_true (by have := h.nl; omega)
theorem open_names {v : AV} (h : hasSh (.slice .str) v = true) (hf : Fit v) : ∃ ns, v = .slv .str ns ∧ Nms ns := by
  obtain ⟨ns, rfl, e1, e2, e3⟩ := has_sliceR (s := .str) h hf
  refine ⟨ns, rfl, e1, List.all_eq_true.2 fun e he => ?_⟩
  obtain ⟨s, rfl⟩ := has_str (e2 e he)
  have := (e3 _ he).str_inv
  exact and_t rfl (decide_eq_true (by show s.length ≤ _; omega))
structure Kys (kk : List AV) : Prop where
  kl : kk.length ≤ 140737488351232
  ok : kk.all okK = true
theorem Kys.ks {kk : List AV} (h : Kys kk) : small kk.length = true := decide_eq_true (by have := h.kl; omega)
theorem open_keys {v : AV} (h : hasSh (.slice (.agg [.str, .int .u64])) v = true) (hf : Fit v) : ∃ kk, v = .slv (.agg [.str, .int .u64]) kk ∧ Kys kk := by
  obtain ⟨kk, rfl, e1, e2, e3⟩ := has_sliceR (s := .agg [.str, .int .u64]) h hf
  refine ⟨kk, rfl, e1, List.all_eq_true.2 fun e he => ?_⟩
  obtain ⟨cs, rfl, hh⟩ := has_agg (e2 e he)
  obtain ⟨c0, cs, rfl, h0, hh⟩ := hass_cons hh
  obtain ⟨n, rfl⟩ := has_str h0
  have := ((e3 _ he).agg_inv (.str n) (by simp)).str_inv
  exact decide_eq_true (by show n.length ≤ _; omega)
theorem fit_str {s : List UInt8} (h : Fit (.str s)) : small s.length = true := decide_eq_true (by have := h.str_inv; omega)
theorem open_bytes {v : AV} (h : hasSh (.slice (.int .u8)) v = true) (hf : Fit v) : ∃ bs, v = .slv (.int .u8) bs ∧ Msg [] bs := by
  obtain ⟨bs, rfl, b1, b2, b3⟩ := has_sliceR (s := .int .u8) h hf
  exact ⟨bs, rfl, Nat.zero_le _, rfl, b1, List.all_eq_true.2 fun e he => open_byte (b2 e he) (b3 e he)⟩
end Go.Proofs.YthdhfmdhjanoaaaGreatDoor


namespace Go.Proofs.YthdhfmdhjanoaaaGreatDoor
open Go.Ev
theorem pfx_at (l1 l2 : List UInt8) (c : UInt8) : pfx (l1 ++ c :: l2) l1.length = [c, 61] := by
  unfold pfx
  rw [List.drop_left, Nat.add_sub_cancel_left]
  rfl
theorem has_pre (p x : List UInt8) : Lib.hasPrefix (p ++ x) p = true := List.isPrefixOf_iff_prefix.2 (List.prefix_append _ _)
theorem trim_pre (p x : List UInt8) : Lib.trimPrefix (p ++ x) p = x := by
  unfold Lib.trimPrefix
  rw [if_pos (has_pre p x), List.drop_left]
def prs : List UInt8 → List (List UInt8) → List (List UInt8)
  | c :: l, x :: xs => ([c, 61] ++ x) :: prs l xs
  | _, _ => []
theorem prs_len : ∀ (l : List UInt8) (xs : List (List UInt8)), xs.length = l.length → (prs l xs).length = l.length
  | [], [], _ => rfl
  | c :: l, x :: xs, h => by
    show (prs l xs).length + 1 = _
    rw [prs_len l xs (by simpa using h)]; rfl
theorem goG_cons (p : Nat → List UInt8) (i : Nat) (pre : List AV) (e : AV) (r : List AV) : goG p i pre (e :: r) = bif Lib.hasPrefix (sE e) (p i) then goG p (i + 1) (pre ++ [.str (Lib.trimPrefix (sE e) (p i))]) r else (false, (i : Int), pre ++ e :: r) := rfl
theorem go_prs : ∀ (l2 l1 : List UInt8) (xs : List (List UInt8)) (pre : List AV), xs.length = l2.length → (goG (pfx (l1 ++ l2)) l1.length pre ((prs l2 xs).map AV.str)).1 = true ∧ (goG (pfx (l1 ++ l2)) l1.length pre ((prs l2 xs).map AV.str)).2.2 = pre ++ xs.map AV.str
  | [], l1, [], pre, _ => ⟨rfl, (List.append_nil _).symm⟩
  | c :: l2, l1, x :: xs, pre, h => by
    have hp := pfx_at l1 l2 c
    have ih := go_prs l2 (l1 ++ [c]) xs (pre ++ [.str x]) (by simpa using h)
    rw [List.append_assoc, List.length_append, List.singleton_append, List.append_assoc] at ih
    have hg : goG (pfx (l1 ++ c :: l2)) l1.length pre ((prs (c :: l2) (x :: xs)).map AV.str) = goG (pfx (l1 ++ c :: l2)) (l1.length + 1) (pre ++ [.str x]) ((prs l2 xs).map AV.str) := by
      show goG _ _ _ (.str ([c, 61] ++ x) :: _) = _
      rw [goG_cons]
      have he : sE (.str ([c, 61] ++ x)) = [c, 61] ++ x := rfl
      rw [hp, he, has_pre, trim_pre]
      rfl
    rw [hg]
    exact ih
theorem vs_join {l : List UInt8} {xs : List (List UInt8)} (h : xs.length = l.length) (hne : l ≠ []) (hno : ∀ x ∈ prs l xs, x.contains 59 = false) : vsB (pfx l) l.length (Lib.join (prs l xs) [59, 32]) = true ∧ vsL (pfx l) l.length (Lib.join (prs l xs) [59, 32]) = xs.map AV.str := by
  have hpl := prs_len l xs h
  have hs : Lib.split (Lib.join (prs l xs) [59, 32]) [59, 32] = prs l xs := split_join (prs l xs) (fun e => by rw [e] at hpl; exact hne (List.length_eq_zero_iff.1 hpl.symm)) hno
  obtain ⟨a, b⟩ := go_prs l [] xs [] h
  have hB : vsB (pfx l) l.length (Lib.join (prs l xs) [59, 32]) = true := by
    unfold vsB
    rw [hs, List.length_map, hpl]
    exact and_t (beq_self_eq_true _) a
  refine ⟨hB, ?_⟩
  unfold vsL
  rw [hB, hs]
  exact b
theorem sm_no {s : List UInt8} (h : nmS s = true) {c : UInt8} (hc : smI (c.toNat : Nat) = false) : s.contains c = false := by
  cases hh : s.contains c
  · rfl
  · rw [List.contains_iff_mem] at hh
    unfold nmS at h
    simp only [Bool.and_eq_true] at h
    rw [allN_all, List.all_eq_true] at h
    have := h.1 c hh
    rw [hc] at this; cases this
theorem hex_no (n : Int) {c : UInt8} (hc : c.toNat = 58 ∨ c.toNat = 59) : (hexS n).contains c = false := by
  cases hh : (hexS n).contains c
  · rfl
  · rw [List.contains_iff_mem] at hh
    have := digs_mem hh
    omega
theorem no_app {a b : List UInt8} {c : UInt8} (h : a.contains c = false) (h' : b.contains c = false) : (a ++ b).contains c = false := by
  simp only [List.contains_eq_mem, List.mem_append, decide_eq_false_iff_not] at *
  simp [h, h']
theorem join_no {p : List UInt8} {c : UInt8} (hp : p.contains c = false) : ∀ l : List (List UInt8), (∀ x ∈ l, x.contains c = false) → (Lib.join l p).contains c = false
  | [], _ => rfl
  | [x], h => by rw [Lib.join_one]; exact h x (by simp)
  | x :: y :: l, h => by
    rw [join_cons2 x (by simp)]
    exact no_app (no_app (h x (by simp)) hp) (join_no hp (y :: l) fun z hz => h z (by simp [hz]))
theorem strs_back {ns : List AV} (h : ns.all okN = true) : (sL ns).map AV.str = ns := by
  unfold sL
  rw [List.map_map]
  conv => rhs; rw [← List.map_id ns]
  refine List.map_congr_left fun e he => ?_
  have := List.all_eq_true.1 h e he
  unfold okN isS at this
  cases e <;> simp at this
  rfl
theorem nsq_names {ns : List AV} (h : ns.all okN = true) (hn : namB ns = true) : nsq (Lib.join (sL ns) [58]) = ns := by
  obtain ⟨_, h1, h2⟩ := nam_all hn
  unfold nsq
  rw [split_join (sL ns) (fun e => by have : (sL ns).length = ns.length := List.length_map _; rw [e] at this; simp at this; omega) fun x hx => by
    obtain ⟨e, he, rfl⟩ := List.mem_map.1 hx
    exact sm_no (h2 e he).1 rfl]
  exact strs_back h
theorem sg_parts {key : Int} {d : List UInt8} {ns es bs : List AV} (hd : nmS d = true) (hn : ns.all okN = true) (hnm : namB ns = true) (hv : vaB es bs ns = true) :
    vsB (pfx l4) l4.length (vaS key d ns es bs) = true ∧ q4 (vaS key d ns es bs) 0 = d ∧ nsq (q4 (vaS key d ns es bs) 1) = ns ∧ hexB (q4 (vaS key d ns es bs) 2) = true ∧ hexB (q4 (vaS key d ns es bs) 3) = true := by
  have hx : ∀ n, hexB (hexS n) = true := fun n => by
    unfold hexB
    rw [hexS_len, allN_all]
    refine and_t rfl (List.all_eq_true.2 fun b hb => ?_)
    have := digs_mem hb
    unfold hxI inR
    simp only [Bool.or_eq_true, Bool.and_eq_true, decide_eq_true_eq]
    omega
  obtain ⟨S2, hS2⟩ : ∃ S2, vaS key d ns es bs = sgFr d (Lib.join (sL ns) [58]) (hexS (sumF key (cbB bs))) ++ hexS S2 := by
    unfold vaS sgS
    rw [hv, strL_sL hn]
    exact ⟨_, rfl⟩
  have hjn : vaS key d ns es bs = Lib.join (prs l4 [d, Lib.join (sL ns) [58], hexS (sumF key (cbB bs)), hexS S2]) [59, 32] := by
    rw [hS2]
    unfold sgFr l4 prs prs prs prs prs
    rw [join_cons2 _ (by simp), join_cons2 _ (by simp), join_cons2 _ (by simp), Lib.join_one]
    simp only [List.append_assoc, List.cons_append, List.nil_append]
  obtain ⟨_, _, h2⟩ := nam_all hnm
  obtain ⟨a, b⟩ := vs_join (l := l4) (xs := [d, Lib.join (sL ns) [58], hexS (sumF key (cbB bs)), hexS S2]) (show (4 : Nat) = 4 from rfl) (by decide) (by
    intro x hx
    unfold l4 prs prs prs prs prs at hx
    simp only [List.mem_cons, List.mem_nil_iff, or_false] at hx
    rcases hx with rfl | rfl | rfl | rfl
    · exact no_app rfl (sm_no hd rfl)
    · exact no_app rfl (join_no rfl _ fun x hx => by
        obtain ⟨e, he, rfl⟩ := List.mem_map.1 hx
        exact sm_no (h2 e he).1 rfl)
    · exact no_app rfl (hex_no _ (.inr rfl))
    · exact no_app rfl (hex_no _ (.inr rfl)))
  rw [← hjn] at a b
  have hq : ∀ i, q4 (vaS key d ns es bs) i = sE (([d, Lib.join (sL ns) [58], hexS (sumF key (cbB bs)), hexS S2].map AV.str).getD i .unk) := fun i => by
    unfold q4 vs4
    rw [b]
  refine ⟨a, hq 0, ?_, ?_, ?_⟩
  · rw [hq 1]; exact nsq_names hn hnm
  · rw [hq 2]; exact hx _
  · rw [hq 3]; exact hx _
theorem dn_shift {p q : Nat → Bool} (h0 : p 0 = false) (hs : ∀ i, p (i + 1) = q i) : ∀ n, dn p (n + 1) = (dn q n).map (· + 1)
  | 0 => by
    unfold dn dn
    rw [h0]; rfl
  | n + 1 => by
    have ih := dn_shift h0 hs n
    rw [show dn p (n + 1 + 1) = bif p (n + 1) then some (n + 1) else dn p (n + 1) from rfl, show dn q (n + 1) = bif q n then some n else dn q n from rfl, hs n, ih]
    cases q n <;> rfl
theorem selF_front {f : AV} {es : List AV} : ∀ (ns : List AV) (u : AV) (us : List AV), (∀ n ∈ ns, eqF (fN f) (sE n) = false) → (selF (f :: es) ns (u :: us)).1 = (selF es ns us).1
  | [], _, _, _ => rfl
  | n :: ns, u, us, h => by
    rw [selF_cons, selF_cons]
    have hd : dn (frB (f :: es) (u :: us) (sE n)) (f :: es).length = (dn (frB es us (sE n)) es.length).map (· + 1) := dn_shift (by
      show (!uB u && eqF (fN f) (sE n)) = false
      rw [h n (by simp), Bool.and_false]) (fun i => rfl) es.length
    rw [hd]
    cases dn (frB es us (sE n)) es.length with
    | none => exact selF_front ns u us fun m hm => h m (by simp [hm])
    | some q =>
      show fldE (es.getD q .unk) ++ (selF (f :: es) ns (u :: us.set q (.bool true))).1 = fldE (es.getD q .unk) ++ (selF es ns (us.set q (.bool true))).1
      rw [selF_front ns u _ fun m hm => h m (by simp [hm])]
theorem nam_not {ns : List AV} (h : namB ns = true) : ∀ n ∈ ns, eqF sgF (sE n) = false := fun n hn => by
  obtain ⟨h1, h2⟩ := (nam_all h).2.2 n hn
  have hl := nm_low h1
  unfold eqF
  rw [hl, show lowS sgF = sgL from by decide]
  cases hb : (sgL == sE n)
  · rw [Bool.and_false]
  · have : sgL = sE n := by simpa using hb
    rw [← this] at h2
    simp at h2
theorem cf_front {f : AV} {es ns : List AV} (h : (hvC (f :: es) == 0) = true) (h' : (hvC es == 0) = true) (hn : ∀ n ∈ ns, eqF (fN f) (sE n) = false) : cfC (f :: es) ns = cfC es ns ∧ cfB (f :: es) ns = cfB es ns := by
  unfold cfC cfB
  rw [h, h']
  refine ⟨rfl, ?_⟩
  cases decide ((ns.length : Int) > 300)
  · exact selF_front ns _ _ hn
  · rfl
theorem va_front {f : AV} {es bs ns : List AV} (key : Int) (d : List UInt8) (h : (hvC (f :: es) == 0) = true) (h' : (hvC es == 0) = true) (hn : ∀ n ∈ ns, eqF (fN f) (sE n) = false) : vaB (f :: es) bs ns = vaB es bs ns ∧ vaS key d ns (f :: es) bs = vaS key d ns es bs := by
  obtain ⟨a, b⟩ := cf_front h h' hn
  have hB : vaB (f :: es) bs ns = vaB es bs ns := by unfold vaB; rw [a]
  refine ⟨hB, ?_⟩
  unfold vaS
  rw [hB, b]
theorem ve_front {f : AV} {es bs kk : List AV} (v : List UInt8) (h : (hvC (f :: es) == 0) = true) (h' : (hvC es == 0) = true) (hn : vkB v = true → ∀ n ∈ nsq (q4 v 1), eqF (fN f) (sE n) = false) : veR (f :: es) bs kk v = veR es bs kk v := by
  unfold veR
  cases hv : vkB v
  · exact Eq.trans (cond_t rfl) (cond_t rfl).symm
  · cases keyB kk (q4 v 0)
    · exact Eq.trans (cond_f rfl) (Eq.trans (cond_t rfl) (Eq.trans (cond_f rfl) (cond_t rfl)).symm)
    · simp only [Bool.not_true, cond_false]
      rw [(va_front (keyV kk (q4 v 0)) (q4 v 0) h h' (hn hv)).2]
theorem uN_spec {a : Int} (ha : uN a = true) : 0 ≤ a ∧ a < 18446744073709551616 := by
  unfold uN at ha
  simpa using ha
theorem pow16 : (16 : Nat) ^ 16 = 18446744073709551616 := rfl
theorem digs16 {a b : Nat} (ha : a < 18446744073709551616) (hb : b < 18446744073709551616) (h : digs 16 a = digs 16 b) : a = b := digs_inj 16 a b (pow16 ▸ ha) (pow16 ▸ hb) h
theorem hexS_inj {a b : Int} (ha : uN a = true) (hb : uN b = true) (h : hexS a = hexS b) : a = b := by
  obtain ⟨a0, a1⟩ := uN_spec ha
  obtain ⟨b0, b1⟩ := uN_spec hb
  have := digs16 (a := a.toNat) (b := b.toNat) (by omega) (by omega) h
  omega
theorem sgS_inj {key : Int} {d n : List UInt8} {B1 B2 H : List AV} : (sgS key d n B1 H == sgS key d n B2 H) = (sumF key B1 == sumF key B2) := by
  cases h : sumF key B1 == sumF key B2
  · cases h2 : sgS key d n B1 H == sgS key d n B2 H
    · rfl
    · have e : sgS key d n B1 H = sgS key d n B2 H := by simpa using h2
      unfold sgS at e
      obtain ⟨e1, _⟩ := List.append_inj e (by unfold sgFr; simp only [List.length_append, hexS_len])
      unfold sgFr at e1
      obtain ⟨e2, _⟩ := List.append_inj e1 (by simp only [List.length_append, hexS_len])
      obtain ⟨_, e3⟩ := List.append_inj e2 rfl
      have := hexS_inj (uN_sum key B1) (uN_sum key B2) e3
      rw [this] at h
      simp at h
  · have e : sumF key B1 = sumF key B2 := by simpa using h
    unfold sgS
    rw [e]
    simp
end Go.Proofs.YthdhfmdhjanoaaaGreatDoor


namespace Go.Proofs.YthdhfmdhjanoaaaGreatDoor
open Go.Ev
theorem strAV_app (a b : List AV) : strAV (a ++ b) = strAV a ++ strAV b := by unfold strAV; rw [List.map_append]
theorem strAV_drop (a : List AV) (n : Nat) : strAV (a.drop n) = (strAV a).drop n := by unfold strAV; rw [List.map_drop]
theorem occ_same {s t sub : List UInt8} {j : Nat} (h : j + sub.length ≤ s.length) : Lib.occAt (s ++ t) sub j = Lib.occAt s sub j := by
  rw [Lib.occAt_iff_take _ _ _ (by rw [List.length_append]; omega), Lib.occAt_iff_take _ _ _ h, List.drop_append_of_le_length (by omega), List.take_append_of_le_length (by rw [List.length_drop]; omega)]
theorem idx_app {s t sub : List UInt8} (h : 0 ≤ Lib.index s sub) : Lib.index (s ++ t) sub = Lib.index s sub := by
  rcases Lib.index_spec s sub with ⟨h1, _⟩ | ⟨i, h1, h2, h3, h4⟩
  · omega
  · have hr := Lib.index_room s sub h
    rw [h1] at hr ⊢
    exact Lib.index_hit (fun j hj => (occ_same (by omega)).trans (h4 j hj)) (by rw [List.length_append]; omega) ((occ_same (by omega)).trans h3)
theorem cbi_app {cs : List AV} (t : List AV) (h : 0 ≤ cbi cs) : cbi (cs ++ t) = cbi cs := by
  unfold cbi at h ⊢
  rw [strAV_app, idx_app h]
def Ec (cs : List AV) : Prop := ∃ c, strAV cs = c ++ [13, 10]
theorem occ_end (c : List UInt8) : Lib.occAt (c ++ [13, 10]) [13, 10] c.length = true := by
  unfold Lib.occAt
  rw [List.drop_left]
  rfl
theorem ec_idx {cs : List AV} (h : Ec cs) : 0 ≤ cbi cs := by
  obtain ⟨c, hc⟩ := h
  unfold cbi
  rw [hc]
  rcases Lib.index_spec (c ++ [13, 10]) [13, 10] with ⟨_, h2⟩ | ⟨i, h1, _⟩
  · have := h2 c.length (by rw [List.length_append]; omega)
    rw [occ_end] at this
    cases this
  · omega
theorem ec_drop {cs : List AV} {m : Nat} (h : Ec cs) (hm : cbi cs = m) : cs.drop (m + 2) = [] ∨ Ec (cs.drop (m + 2)) := by
  obtain ⟨c, hc⟩ := h
  have hl : cs.length = c.length + 2 := by rw [← strAV_len, hc, List.length_append]; rfl
  have hroom := cbi_room (cs := cs) (by omega)
  rw [hm, Int.toNat_natCast] at hroom
  rcases Nat.lt_trichotomy (m + 2) (c.length + 1) with h1 | h1 | h1
  · right
    exact ⟨c.drop (m + 2), by rw [strAV_drop, hc, List.drop_append_of_le_length (by omega)]⟩
  · exfalso
    unfold cbi at hm
    rw [hc] at hm
    rcases Lib.index_spec (c ++ [13, 10]) [13, 10] with ⟨h2, _⟩ | ⟨i, h2, _, h3, _⟩
    · omega
    · obtain rfl : i = m := by omega
      rw [Lib.occAt_iff_take _ _ _ (by rw [List.length_append]; show i + 2 ≤ c.length + 2; omega)] at h3
      have h3 := eq_of_beq h3
      have hd : (c ++ [13, 10]).drop i = c.drop i ++ [13, 10] := List.drop_append_of_le_length (by omega)
      have hcl : (c.drop i).length = 1 := by rw [List.length_drop]; omega
      rw [hd] at h3
      match hx : c.drop i, hcl with
      | [x], _ =>
        rw [hx] at h3
        change [x, 13] = [13, 10] at h3
        simp at h3
  · left
    exact List.drop_eq_nil_of_le (by omega)
theorem cbi_nil : cbi [] < 0 := by decide
theorem cbL_nil (f : Nat) (o : List AV × Int) : cbL f [] o = ([], o) := by
  cases f with
  | zero => rfl
  | succ f => rw [cbL_step, decide_eq_true cbi_nil]; rfl
theorem cb_end : ∀ (f : Nat) (cs : List AV) (o : List AV × Int), cs.length ≤ f → (cs = [] ∨ Ec cs) →
    ∃ o', cbL f cs o = ([], o') ∧ ∀ (t : List AV) (g : Nat), (cs ++ t).length ≤ g → cbL g (cs ++ t) o = cbL g t o'
  | f, cs, o, hf, .inl h => by
    subst h
    exact ⟨o, cbL_nil f o, fun t g _ => rfl⟩
  | 0, cs, o, hf, .inr h => by
    have := cbi_room (ec_idx h)
    omega
  | f + 1, cs, o, hf, .inr h => by
    have h0 := ec_idx h
    obtain ⟨m, hm⟩ : ∃ m : Nat, cbi cs = m := ⟨(cbi cs).toNat, by omega⟩
    have hroom := cbi_room h0
    rw [hm, Int.toNat_natCast] at hroom
    have hneg : decide (cbi cs < 0) = false := decide_eq_false (by omega)
    obtain ⟨o', h1, h2⟩ := cb_end f (cs.drop (m + 2)) (rnd o (cs.take m)) (by rw [List.length_drop]; omega) (ec_drop h hm)
    refine ⟨o', ?_, fun t g hg => ?_⟩
    · rw [cbL_step, hneg, cond_false, hm, Int.toNat_natCast]
      exact h1
    · rw [List.length_append] at hg
      match g, hg with
      | 0, hg => omega
      | g + 1, hg =>
        rw [cbL_step, cbi_app t h0, hneg, cond_false, hm, Int.toNat_natCast, List.drop_append_of_le_length hroom, List.take_append_of_le_length (by omega), h2 t g (by rw [List.length_append, List.length_drop]; omega)]
        exact cbL_fuel g (g + 1) t o' (by omega) (by omega)
def blA : List AV := [.int .u8 32, .int .u8 13, .int .u8 10]
theorem bdy_blank {cs : List AV} (h : cs = [] ∨ Ec cs) : (bdyF (cs ++ blA)).1 = (bdyF cs).1 := by
  obtain ⟨o', h1, h2⟩ := cb_end cs.length cs ([], 0) (Nat.le_refl _) h
  have h3 : cbL (cs ++ blA).length (cs ++ blA) ([], 0) = ([], (o'.1, o'.2 + 1)) := by
    rw [h2 blA _ (Nat.le_refl _), cbL_fuel _ 3 blA o' (by rw [List.length_append]; exact Nat.le_add_left _ _) (Nat.le_refl _), cbL_step]
    have hb : cbi blA = 1 := by decide
    rw [hb, decide_eq_false (by omega), cond_false]
    have hd : blA.drop ((1 : Int).toNat + 2) = [] := rfl
    rw [hd, cbL_nil]
    rfl
  unfold bdyF
  rw [h1, h3]
  rfl
theorem sfB_self (a : List AV) : sfB a a = true := by
  unfold sfB
  rw [findN_of_none fun j _ _ => by unfold difF; rw [beq_self_eq_true, beq_self_eq_true]; rfl]
  rw [beq_self_eq_true]
  rfl
theorem smB_self (a b : List AV) : smB a b a b = true := by
  unfold smB
  rw [sfB_self, beq_self_eq_true]
  rfl
theorem bd_ten {es : List AV} : ∀ (m i : Nat) (n : Int), es.length - i ≤ m → ((bd es n i).1 ≠ 11 ∧ (bd es n i).1 ≠ 1) → ∀ k, i ≤ k → k < es.length → iE (es.getD k .unk) = 10 → i + 1 ≤ k ∧ iE (es.getD (k - 1) .unk) = 13
  | 0, i, n, hm, _, k, hk, hk2, _ => by omega
  | m + 1, i, n, hm, h, k, hk, hk2, h10 => by
    have hlt : i < es.length := by omega
    rw [bd_lt hlt] at h
    cases c1 : (iE (es.getD i .unk) == 13 && (decide (i + 1 < es.length) && iE (es.getD (i + 1) .unk) == 10))
    · rw [c1, cond_false] at h
      cases c2 : (iE (es.getD i .unk) == 13 || iE (es.getD i .unk) == 10)
      · rw [c2, cond_false] at h
        rw [Bool.or_eq_false_iff] at c2
        have h2 : iE (es.getD i .unk) ≠ 10 := by simpa using c2.2
        cases c3 : decide (n + 1 > 998)
        · rw [c3, cond_false] at h
          have hne : k ≠ i := fun e => h2 (e ▸ h10)
          obtain ⟨a, b⟩ := bd_ten m (i + 1) (n + 1) (by omega) h k (by omega) hk2 h10
          exact ⟨by omega, b⟩
        · rw [c3, cond_true] at h
          exact absurd rfl h.2
      · rw [c2, cond_true] at h
        exact absurd rfl h.1
    · rw [c1, cond_true] at h
      simp only [Bool.and_eq_true, decide_eq_true_eq, beq_iff_eq] at c1
      obtain ⟨c1, c2, c3⟩ := c1
      by_cases e0 : k = i
      · rw [e0, c1] at h10; omega
      · by_cases e1 : k = i + 1
        · rw [e1]; exact ⟨Nat.le_refl _, c1⟩
        · obtain ⟨a, b⟩ := bd_ten m (i + 2) 0 (by omega) h k (by omega) hk2 h10
          exact ⟨by omega, b⟩
theorem bE_int {e : AV} (h : bE e = true) : iE e = e.toInt := by
  unfold bE at h
  rw [Bool.and_eq_true] at h
  obtain ⟨n, rfl⟩ := has_int (k := .u8) h.1
  rfl
theorem mb_end {bs : List AV} (hall : bs.all bE = true) (h : mbC bs = 0) (h0 : 0 < bs.length) (h10 : iE (bs.getD (bs.length - 1) .unk) = 10) : Ec bs := by
  have hne : (bd bs 0 0).1 ≠ 11 ∧ (bd bs 0 0).1 ≠ 1 := by
    unfold mbC at h
    refine ⟨fun e => ?_, fun e => ?_⟩
    · rw [e] at h; cases h
    · rw [e] at h; cases h
  obtain ⟨a, b⟩ := bd_ten bs.length 0 0 (by omega) hne (bs.length - 1) (by omega) (by omega) h10
  have hi : ∀ k, k < bs.length → iE (bs.getD k .unk) = (bs.getD k .unk).toInt := fun k hk => bE_int (all_getD hall hk)
  refine ⟨strAV (bs.take (bs.length - 2)), ?_⟩
  conv => lhs; rw [← List.take_append_drop (bs.length - 2) bs]
  rw [strAV_app]
  congr 1
  rw [drop_getD (by omega), drop_getD (by omega), List.drop_eq_nil_of_le (by omega)]
  have e1 : bs.length - 1 - 1 = bs.length - 2 := by omega
  have e2 : bs.length - 2 + 1 = bs.length - 1 := by omega
  rw [e1, hi _ (by omega)] at b
  rw [hi _ (by omega)] at h10
  rw [e2]
  show [UInt8.ofNat (bs.getD (bs.length - 2) .unk).toInt.toNat, UInt8.ofNat (bs.getD (bs.length - 1) .unk).toInt.toNat] = _
  rw [b, h10]
  rfl
theorem vd_mb {es bs : List AV} (h : (vdC es bs == 0) = true) : mbC bs = 0 := by
  have h0 := vd_hv h
  unfold vdC at h
  rw [h0] at h
  cases h1 : decide (((wrF es ++ two ++ bs).length : Int) > 12000)
  · rw [h1] at h
    simp only [Bool.not_true, cond_false] at h
    exact eq_of_beq h
  · rw [h1] at h; cases h
end Go.Proofs.YthdhfmdhjanoaaaGreatDoor


namespace Go.Proofs.YthdhfmdhjanoaaaGreatDoor
open Go.Ev
theorem eqF_comm (a b : List UInt8) : eqF a b = eqF b a := by
  unfold eqF
  rw [Bool.eq_iff_iff]
  simp only [Bool.and_eq_true, beq_iff_eq]
  exact ⟨fun h => ⟨h.1.symm, h.2.symm⟩, fun h => ⟨h.1.symm, h.2.symm⟩⟩
theorem cbZ0 {bs es : List AV} (h : (vdC es bs == 0) = true) : (cbC bs == 0) = true ∧ bs.length ≤ 12000 := by
  have h0 := vd_hv h
  unfold vdC at h
  rw [h0] at h
  cases h1 : decide (((wrF es ++ two ++ bs).length : Int) > 12000)
  · have hl := of_decide_eq_false h1
    rw [List.length_append, List.length_append] at hl
    have hb : bs.length ≤ 12000 := by omega
    refine ⟨?_, hb⟩
    unfold cbC
    rw [decide_eq_false (by omega)]
    rfl
  · rw [h1] at h; cases h
theorem cb_same {es es' bs bs' : List AV} (h : (vdC es bs == 0) = true) (h' : (vdC es' bs' == 0) = true) (hb : (bdyF bs').1 = (bdyF bs).1) : cbC bs' = cbC bs ∧ cbB bs' = cbB bs := by
  obtain ⟨a, b⟩ := cbZ0 h
  obtain ⟨a', b'⟩ := cbZ0 h'
  unfold cbC cbB
  rw [decide_eq_false (p := (bs.length : Int) > 12000) (by omega), decide_eq_false (p := (bs'.length : Int) > 12000) (by omega), hb]
  exact ⟨rfl, rfl⟩
theorem va_body {es bs bs' ns : List AV} (key : Int) (d : List UInt8) (h1 : cbC bs' = cbC bs) (h2 : cbB bs' = cbB bs) : vaS key d ns es bs' = vaS key d ns es bs := by
  unfold vaS vaB
  rw [h1, h2]
theorem ve_body {es bs bs' kk : List AV} (v : List UInt8) (h1 : cbC bs' = cbC bs) (h2 : cbB bs' = cbB bs) : veR es bs' kk v = veR es bs kk v := by
  unfold veR
  rw [va_body _ _ h1 h2]
theorem ve_more {f : AV} {es bs bs' kk : List AV} (hv : (vdC es bs == 0) = true) (hv' : (vdC (f :: es) bs' == 0) = true) (hb : (bdyF bs').1 = (bdyF bs).1) (hf : eqF (fN f) sgF = false) (hn : ∀ v, AV.str v ∈ pkF sgF es → vkB v = true → ∀ n ∈ nsq (q4 v 1), eqF (sE n) (fN f) = false) : veL (f :: es) bs' kk (f :: es) = veL es bs kk es := by
  obtain ⟨c1, c2⟩ := cb_same hv hv' hb
  rw [veL_cons, hf, cond_false]
  unfold veL
  refine List.map_congr_left fun e he => ?_
  have hm : AV.str (fV e) ∈ pkF sgF es := List.mem_map.2 ⟨e, he, rfl⟩
  unfold veE
  rw [ve_body _ c1 c2, ve_front _ (vd_hv hv') (vd_hv hv) fun hk n hh => by rw [eqF_comm]; exact hn _ hm hk n hh]
def mrB (bs : List AV) : List AV := bif decide (0 < bs.length) && !(iE (bs.getD (bs.length - 1) .unk) == 10) then bs else bs ++ blA
theorem mrB_same {es bs : List AV} (hall : bs.all bE = true) (hv : (vdC es bs == 0) = true) : (bdyF (mrB bs)).1 = (bdyF bs).1 := by
  unfold mrB
  cases h : decide (0 < bs.length) && !(iE (bs.getD (bs.length - 1) .unk) == 10)
  · rw [cond_false]
    refine bdy_blank ?_
    by_cases h0 : 0 < bs.length
    · rw [decide_eq_true h0, Bool.true_and] at h
      have h10 : iE (bs.getD (bs.length - 1) .unk) = 10 := by simpa using h
      exact .inr (mb_end hall (vd_mb hv) h0 h10)
    · exact .inl (List.length_eq_zero_iff.1 (by omega))
  · rfl
end Go.Proofs.YthdhfmdhjanoaaaGreatDoor

namespace Go.Proofs.YthdhfmdhjanoaaaGreatDoor
open Go.Ev
def dE (e : AV) : List UInt8 := (e.cells.headD .unk).toStr
def rE (e : AV) : Int := (e.cells.tail.headD .unk).toInt
noncomputable def G7 : Env := { pure := [(26, ofT F26), (31, ofT F53), (16, ofT F16), (28, ofT F28), (29, ofT F29), (18, ofT F18)], conv := true }
theorem g7 : GOK Tryz.prog G7 := GOK.flags (GOK.also (GOK.also (GOK.also (GOK.also (GOK.also (GOK.also g0 ok18) ok29) ok28) ok16) ok31') ok26)
noncomputable def b7 : Code := ((Tryz.f7.body.map loopsOf).getD []).headD .skip
noncomputable def c7 : Code := (((Tryz.f7.body.map loopsOf).getD []).tail).headD .skip
noncomputable def d7 : Code := (((Tryz.f7.body.map loopsOf).getD []).tail.tail).headD .skip
def shX (e : AV) : Bool := decide ((sE e).length ≤ 100000)
def nmV (v : List UInt8) : List AV := bif vsB (pfx l4) l4.length v then nsq (q4 v 1) else []
def alB (n : List UInt8) (ns : List AV) (q : Nat) : Bool := eqF (sE (ns.getD q .unk)) n
def baB (n : List UInt8) (vs : List AV) (i : Nat) : Bool := vkB (sE (vs.getD i .unk)) && (findN (alB n (nmV (sE (vs.getD i .unk)))) (nmV (sE (vs.getD i .unk))).length 0).isSome
def dfB (l l2 : List AV) (i : Nat) : Bool := !(dE (l.getD i .unk) == dE (l2.getD i .unk) && rE (l.getD i .unk) == rE (l2.getD i .unk))
def M7 : List AV → List (Option Row) → Tr LOut
  | [.slv (.agg [.str, .int .u64]) kk, .str n, .str v, .ptr 0 0, .bool false, .slv (.agg [.str, .int .i64]) l, .slv .str vs, .int .i64 i, .slv .str ns, .bool ok, .int .i64 q], [some (.box false [.slv (.agg [.str, .str]) es, .slv (.int .u8) bs])] =>
    .gd (cnt ns.length q ns.length && (ns.all okN && small n.length)) (.br ok (sT (alB n ns) ns.length (fun p => .leaf (.ret, [.slv (.agg [.str, .int .u64]) kk, .str n, .str v, .ptr 0 0, .bool true, .slv (.agg [.str, .int .i64]) l, .slv .str vs, .int .i64 i, .slv .str ns, .bool true, .int .i64 (p : Nat)], [some (.box false [.slv (.agg [.str, .str]) es, .slv (.int .u8) bs])]))
      (.leaf (.exit 2, [.slv (.agg [.str, .int .u64]) kk, .str n, .str v, .ptr 0 0, .bool false, .slv (.agg [.str, .int .i64]) l, .slv .str vs, .int .i64 i, .slv .str ns, .bool true, .int .i64 ns.length], [some (.box false [.slv (.agg [.str, .str]) es, .slv (.int .u8) bs])])) q.toNat)
      (.leaf (.exit 2, [.slv (.agg [.str, .int .u64]) kk, .str n, .str v, .ptr 0 0, .bool false, .slv (.agg [.str, .int .i64]) l, .slv .str vs, .int .i64 i, .slv .str ns, .bool false, .int .i64 q], [some (.box false [.slv (.agg [.str, .str]) es, .slv (.int .u8) bs])])))
  | _, _ => .no
def m7 : Ev.Loop := ⟨{ len := 138, slots := [1, 2, 3, 4, 8, 9, 11, 12, 14, 15, 16], rows := [0] }, ofL M7⟩
def L7 : List AV → List (Option Row) → Tr LOut
  | [.slv (.agg [.str, .int .u64]) kk, .str n, .str v, .ptr 0 0, .bool false, .slv (.agg [.str, .int .i64]) l, .slv .str vs, .int .i64 i], [some (.box false [.slv (.agg [.str, .str]) es, .slv (.int .u8) bs])] =>
    .gd (cnt vs.length i vs.length && (vs.all shX && small n.length)) (sT (baB n vs) vs.length (fun p => .leaf (.ret, [.slv (.agg [.str, .int .u64]) kk, .str n, .str v, .ptr 0 0, .bool true, .slv (.agg [.str, .int .i64]) l, .slv .str vs, .int .i64 (p : Nat)], [some (.box false [.slv (.agg [.str, .str]) es, .slv (.int .u8) bs])]))
      (.leaf (.exit 0, [.slv (.agg [.str, .int .u64]) kk, .str n, .str v, .ptr 0 0, .bool false, .slv (.agg [.str, .int .i64]) l, .slv .str vs, .int .i64 vs.length], [some (.box false [.slv (.agg [.str, .str]) es, .slv (.int .u8) bs])])) i.toNat)
  | _, _ => .no
def l7 : Ev.Loop := ⟨{ len := 138, slots := [1, 2, 3, 4, 8, 9, 11, 12], rows := [0] }, ofL L7⟩
def N7 : List AV → List (Option Row) → Tr LOut
  | [.bool b, .slv (.agg [.str, .int .i64]) l, .slv (.agg [.str, .int .i64]) l2, .int .i64 i], [] =>
    .gd (cnt l.length i l.length && decide (l2.length = l.length)) (sT (dfB l l2) l.length (fun p => .leaf (.ret, [.bool false, .slv (.agg [.str, .int .i64]) l, .slv (.agg [.str, .int .i64]) l2, .int .i64 (p : Nat)], []))
      (.leaf (.exit 4, [.bool b, .slv (.agg [.str, .int .i64]) l, .slv (.agg [.str, .int .i64]) l2, .int .i64 l.length], [])) i.toNat)
  | _, _ => .no
def n7 : Ev.Loop := ⟨{ len := 138, slots := [8, 9, 18, 20] }, ofL N7⟩
def μ7m (vs : List AV) (_ : List (Option Row)) : Nat := match vs with
  | [_, _, _, _, _, _, _, _, .slv _ ns, _, .int _ i] => ((ns.length : Int) - i).toNat
  | _ => 0
def μ7 (vs : List AV) (_ : List (Option Row)) : Nat := match vs with
  | [_, _, _, _, _, _, .slv _ ns, .int _ i] => ((ns.length : Int) - i).toNat
  | _ => 0
def μ7n (vs : List AV) (_ : List (Option Row)) : Nat := match vs with
  | [_, .slv _ ns, _, .int _ i] => ((ns.length : Int) - i).toNat
  | _ => 0
theorem br_t {α ρ : Type} (A B : Tr α) (k : α → Option ρ) : (Tr.br true A B).run k = A.run k := rfl
theorem loop7m : LoopOK Tryz.prog G7 [(6, l7), (10, m7), (23, n7)] c7 m7 := by
  refine loopT g7.natOK rfl (KOK.nil (by kernel_rfl)) μ7m (fun ρ vs rs k r h => ?_)
  unfold M7 at h
  split at h
  · rename_i kk n v l vs i ns ok q es bs
    obtain ⟨hc, hk⟩ := gd_some h
    simp only [Bool.and_eq_true] at hc
    obtain ⟨hc, hns, hsn⟩ := hc
    obtain ⟨_, hs, j, rfl, hj⟩ := cnt_spec hc
    rw [Int.toNat_natCast] at hk
    refine Eq.trans (b := bif decide ((↑j : Int) < (↑ns.length : Int)) then bif ok then bif inb (↑j : Int) ns.length then bif small (sE (ns.getD j AV.unk)).length && small n.length then bif eqF (sE (ns.getD j AV.unk)) n then k Ex.ret [AV.slv (Sh.agg [Sh.str, Sh.int IntKind.u64]) kk, AV.str n, AV.str v, AV.ptr (0 : Nat) (0 : Nat), AV.bool true, AV.slv (Sh.agg [Sh.str, Sh.int IntKind.i64]) l, AV.slv Sh.str vs, AV.int IntKind.i64 i, AV.slv Sh.str ns, AV.bool ok, AV.int IntKind.i64 (↑j : Int)] [some (Row.box false [AV.slv (Sh.agg [Sh.str, Sh.str]) es, AV.slv (Sh.int IntKind.u8) bs])] else bif decide (((↑ns.length : Int) - IntKind.i64.wrap ((↑j : Int) + (1 : Int))).toNat < ((↑ns.length : Int) - (↑j : Int)).toNat) then bif cnt (↑ns.length : Int) (IntKind.i64.wrap ((↑j : Int) + (1 : Int))) ns.length && (ns.all okN && small n.length) then bif ok then bif (findN (alB n ns) ns.length (IntKind.i64.wrap ((↑j : Int) + (1 : Int))).toNat).isSome then k Ex.ret [AV.slv (Sh.agg [Sh.str, Sh.int IntKind.u64]) kk, AV.str n, AV.str v, AV.ptr (0 : Nat) (0 : Nat), AV.bool true, AV.slv (Sh.agg [Sh.str, Sh.int IntKind.i64]) l, AV.slv Sh.str vs, AV.int IntKind.i64 i, AV.slv Sh.str ns, AV.bool true, AV.int IntKind.i64 (↑((findN (alB n ns) ns.length (IntKind.i64.wrap ((↑j : Int) + (1 : Int))).toNat).getD (0 : Nat)) : Int)] [some (Row.box false [AV.slv (Sh.agg [Sh.str, Sh.str]) es, AV.slv (Sh.int IntKind.u8) bs])] else k (Ex.exit (2 : Nat)) [AV.slv (Sh.agg [Sh.str, Sh.int IntKind.u64]) kk, AV.str n, AV.str v, AV.ptr (0 : Nat) (0 : Nat), AV.bool false, AV.slv (Sh.agg [Sh.str, Sh.int IntKind.i64]) l, AV.slv Sh.str vs, AV.int IntKind.i64 i, AV.slv Sh.str ns, AV.bool true, AV.int IntKind.i64 (↑ns.length : Int)] [some (Row.box false [AV.slv (Sh.agg [Sh.str, Sh.str]) es, AV.slv (Sh.int IntKind.u8) bs])] else k (Ex.exit (2 : Nat)) [AV.slv (Sh.agg [Sh.str, Sh.int IntKind.u64]) kk, AV.str n, AV.str v, AV.ptr (0 : Nat) (0 : Nat), AV.bool false, AV.slv (Sh.agg [Sh.str, Sh.int IntKind.i64]) l, AV.slv Sh.str vs, AV.int IntKind.i64 i, AV.slv Sh.str ns, AV.bool false, AV.int IntKind.i64 (IntKind.i64.wrap ((↑j : Int) + (1 : Int)))] [some (Row.box false [AV.slv (Sh.agg [Sh.str, Sh.str]) es, AV.slv (Sh.int IntKind.u8) bs])] else none else none else none else none else k (Ex.exit (2 : Nat)) [AV.slv (Sh.agg [Sh.str, Sh.int IntKind.u64]) kk, AV.str n, AV.str v, AV.ptr (0 : Nat) (0 : Nat), AV.bool false, AV.slv (Sh.agg [Sh.str, Sh.int IntKind.i64]) l, AV.slv Sh.str vs, AV.int IntKind.i64 i, AV.slv Sh.str ns, AV.bool ok, AV.int IntKind.i64 (↑j : Int)] [some (Row.box false [AV.slv (Sh.agg [Sh.str, Sh.str]) es, AV.slv (Sh.int IntKind.u8) bs])] else k (Ex.exit (2 : Nat)) [AV.slv (Sh.agg [Sh.str, Sh.int IntKind.u64]) kk, AV.str n, AV.str v, AV.ptr (0 : Nat) (0 : Nat), AV.bool false, AV.slv (Sh.agg [Sh.str, Sh.int IntKind.i64]) l, AV.slv Sh.str vs, AV.int IntKind.i64 i, AV.slv Sh.str ns, AV.bool ok, AV.int IntKind.i64 (↑j : Int)] [some (Row.box false [AV.slv (Sh.agg [Sh.str, Sh.str]) es, AV.slv (Sh.int IntKind.u8) bs])]) (by kernel_rfl) ?_
    rw [← hk]
    by_cases hlt : j < ns.length
    · obtain ⟨e1, e2, e3, e4, e5⟩ := cnt_facts hlt hs
      cases ok
      · exact Eq.trans (cond_t e1) rfl
      · rw [br_t, sT_step _ _ _ _ _ hlt]
        have hnj : okN (ns.getD j .unk) = true := List.all_eq_true.1 hns _ (by rw [getD_eq hlt]; exact List.getElem_mem hlt)
        have hsm : small (sE (ns.getD j .unk)).length = true := by unfold okN at hnj; simp only [Bool.and_eq_true] at hnj; exact hnj.2
        rw [e3]
        refine Eq.trans (cond_t e1) (Eq.trans (cond_t rfl) (Eq.trans (cond_t e2) (Eq.trans (cond_t (and_t hsm hsn)) ?_)))
        have hal : alB n ns j = eqF (sE (ns.getD j .unk)) n := rfl
        rw [hal]
        cases eqF (sE (ns.getD j .unk)) n
        · refine Eq.trans (cond_f rfl) (Eq.trans (cond_t e5) (Eq.trans (cond_t (and_t e4 (and_t hns hsn))) ?_))
          simp only [Int.toNat_natCast]
          rfl
        · rfl
    · obtain rfl : j = ns.length := by omega
      rw [decide_eq_false (by omega)]
      cases ok
      · rfl
      · rw [br_t, sT_end]
        rfl
  · cases h
theorem nmV_ok {v : List UInt8} (h : v.length ≤ 100000) : small (nmV v).length = true ∧ (nmV v).all okN = true := by
  unfold nmV
  cases h1 : vsB (pfx l4) l4.length v
  · exact ⟨rfl, rfl⟩
  · obtain ⟨_, n1⟩ := q4_len v 1 h1 (by decide)
    obtain ⟨m1, m2, m3⟩ := nsq_ok (s := q4 v 1) (by omega)
    exact ⟨m1, m2⟩
theorem loop7 : LoopOK Tryz.prog G7 [(6, l7), (10, m7), (23, n7)] b7 l7 := by
  refine loopT g7.natOK rfl (KOK.one (by kernel_rfl) (by kernel_rfl) loop7m) μ7 (fun ρ vs rs k r h => ?_)
  unfold L7 at h
  split at h
  · rename_i kk n v l vs i es bs
    obtain ⟨hc, hk⟩ := gd_some h
    simp only [Bool.and_eq_true] at hc
    obtain ⟨hc, hvs, hsn⟩ := hc
    obtain ⟨_, hs, j, rfl, hj⟩ := cnt_spec hc
    rw [Int.toNat_natCast] at hk
    refine Eq.trans (b := bif decide ((↑j : Int) < (↑vs.length : Int)) then bif inb (↑j : Int) vs.length then bif decide ((sE (vs.getD j AV.unk)).length ≤ (100000 : Nat)) then bif cnt (↑(bif vsB (pfx l4) l4.length (sE (vs.getD j AV.unk)) then nsq (q4 (sE (vs.getD j AV.unk)) (1 : Nat)) else []).length : Int) (0 : Int) (bif vsB (pfx l4) l4.length (sE (vs.getD j AV.unk)) then nsq (q4 (sE (vs.getD j AV.unk)) (1 : Nat)) else []).length && ((bif vsB (pfx l4) l4.length (sE (vs.getD j AV.unk)) then nsq (q4 (sE (vs.getD j AV.unk)) (1 : Nat)) else []).all okN && small n.length) then bif vkB (sE (vs.getD j AV.unk)) then bif (findN (alB n (bif vsB (pfx l4) l4.length (sE (vs.getD j AV.unk)) then nsq (q4 (sE (vs.getD j AV.unk)) (1 : Nat)) else [])) (bif vsB (pfx l4) l4.length (sE (vs.getD j AV.unk)) then nsq (q4 (sE (vs.getD j AV.unk)) (1 : Nat)) else []).length (0 : Nat)).isSome then k Ex.ret [AV.slv (Sh.agg [Sh.str, Sh.int IntKind.u64]) kk, AV.str n, AV.str v, AV.ptr (0 : Nat) (0 : Nat), AV.bool true, AV.slv (Sh.agg [Sh.str, Sh.int IntKind.i64]) l, AV.slv Sh.str vs, AV.int IntKind.i64 (↑j : Int)] [some (Row.box false [AV.slv (Sh.agg [Sh.str, Sh.str]) es, AV.slv (Sh.int IntKind.u8) bs])] else bif decide (((↑vs.length : Int) - IntKind.i64.wrap ((↑j : Int) + (1 : Int))).toNat < ((↑vs.length : Int) - (↑j : Int)).toNat) then bif cnt (↑vs.length : Int) (IntKind.i64.wrap ((↑j : Int) + (1 : Int))) vs.length && (vs.all shX && small n.length) then bif (findN (baB n vs) vs.length (IntKind.i64.wrap ((↑j : Int) + (1 : Int))).toNat).isSome then k Ex.ret [AV.slv (Sh.agg [Sh.str, Sh.int IntKind.u64]) kk, AV.str n, AV.str v, AV.ptr (0 : Nat) (0 : Nat), AV.bool true, AV.slv (Sh.agg [Sh.str, Sh.int IntKind.i64]) l, AV.slv Sh.str vs, AV.int IntKind.i64 (↑((findN (baB n vs) vs.length (IntKind.i64.wrap ((↑j : Int) + (1 : Int))).toNat).getD (0 : Nat)) : Int)] [some (Row.box false [AV.slv (Sh.agg [Sh.str, Sh.str]) es, AV.slv (Sh.int IntKind.u8) bs])] else k (Ex.exit (0 : Nat)) [AV.slv (Sh.agg [Sh.str, Sh.int IntKind.u64]) kk, AV.str n, AV.str v, AV.ptr (0 : Nat) (0 : Nat), AV.bool false, AV.slv (Sh.agg [Sh.str, Sh.int IntKind.i64]) l, AV.slv Sh.str vs, AV.int IntKind.i64 (↑vs.length : Int)] [some (Row.box false [AV.slv (Sh.agg [Sh.str, Sh.str]) es, AV.slv (Sh.int IntKind.u8) bs])] else none else none else bif decide (((↑vs.length : Int) - IntKind.i64.wrap ((↑j : Int) + (1 : Int))).toNat < ((↑vs.length : Int) - (↑j : Int)).toNat) then bif cnt (↑vs.length : Int) (IntKind.i64.wrap ((↑j : Int) + (1 : Int))) vs.length && (vs.all shX && small n.length) then bif (findN (baB n vs) vs.length (IntKind.i64.wrap ((↑j : Int) + (1 : Int))).toNat).isSome then k Ex.ret [AV.slv (Sh.agg [Sh.str, Sh.int IntKind.u64]) kk, AV.str n, AV.str v, AV.ptr (0 : Nat) (0 : Nat), AV.bool true, AV.slv (Sh.agg [Sh.str, Sh.int IntKind.i64]) l, AV.slv Sh.str vs, AV.int IntKind.i64 (↑((findN (baB n vs) vs.length (IntKind.i64.wrap ((↑j : Int) + (1 : Int))).toNat).getD (0 : Nat)) : Int)] [some (Row.box false [AV.slv (Sh.agg [Sh.str, Sh.str]) es, AV.slv (Sh.int IntKind.u8) bs])] else k (Ex.exit (0 : Nat)) [AV.slv (Sh.agg [Sh.str, Sh.int IntKind.u64]) kk, AV.str n, AV.str v, AV.ptr (0 : Nat) (0 : Nat), AV.bool false, AV.slv (Sh.agg [Sh.str, Sh.int IntKind.i64]) l, AV.slv Sh.str vs, AV.int IntKind.i64 (↑vs.length : Int)] [some (Row.box false [AV.slv (Sh.agg [Sh.str, Sh.str]) es, AV.slv (Sh.int IntKind.u8) bs])] else none else none else none else none else none else k (Ex.exit (0 : Nat)) [AV.slv (Sh.agg [Sh.str, Sh.int IntKind.u64]) kk, AV.str n, AV.str v, AV.ptr (0 : Nat) (0 : Nat), AV.bool false, AV.slv (Sh.agg [Sh.str, Sh.int IntKind.i64]) l, AV.slv Sh.str vs, AV.int IntKind.i64 (↑j : Int)] [some (Row.box false [AV.slv (Sh.agg [Sh.str, Sh.str]) es, AV.slv (Sh.int IntKind.u8) bs])]) (by kernel_rfl) ?_
    rw [← hk]
    by_cases hlt : j < vs.length
    · obtain ⟨e1, e2, e3, e4, e5⟩ := cnt_facts hlt hs
      rw [sT_step _ _ _ _ _ hlt]
      have hvl : (sE (vs.getD j .unk)).length ≤ 100000 := of_decide_eq_true (all_getD (P := shX) hvs hlt)
      obtain ⟨n1, n2⟩ := nmV_ok hvl
      have hX : (bif vsB (pfx l4) l4.length (sE (vs.getD j AV.unk)) then nsq (q4 (sE (vs.getD j AV.unk)) 1) else []) = nmV (sE (vs.getD j .unk)) := rfl
      have hb : baB n vs j = (vkB (sE (vs.getD j .unk)) && (findN (alB n (nmV (sE (vs.getD j .unk)))) (nmV (sE (vs.getD j .unk))).length 0).isSome) := rfl
      rw [hb, hX, e3]
      simp only [Int.toNat_natCast]
      refine Eq.trans (cond_t e1) (Eq.trans (cond_t e2) (Eq.trans (cond_t (decide_eq_true hvl)) (Eq.trans (cond_t (and_t (cnt_zero n1) (and_t n2 hsn))) ?_)))
      cases vkB (sE (vs.getD j .unk))
      · exact Eq.trans (cond_f rfl) (Eq.trans (cond_t e5) (Eq.trans (cond_t (and_t e4 (and_t hvs hsn))) rfl))
      · cases (findN (alB n (nmV (sE (vs.getD j .unk)))) (nmV (sE (vs.getD j .unk))).length 0).isSome
        · exact Eq.trans (cond_t rfl) (Eq.trans (cond_f rfl) (Eq.trans (cond_t e5) (Eq.trans (cond_t (and_t e4 (and_t hvs hsn))) rfl)))
        · rfl
    · obtain rfl : j = vs.length := by omega
      rw [decide_eq_false (by omega), sT_end]
      rfl
  · cases h
theorem loop7n : LoopOK Tryz.prog G7 [(6, l7), (10, m7), (23, n7)] d7 n7 := by
  refine loopT g7.natOK rfl (KOK.nil (by kernel_rfl)) μ7n (fun ρ vs rs k r h => ?_)
  unfold N7 at h
  split at h
  · rename_i b l l2 i
    obtain ⟨hc, hk⟩ := gd_some h
    simp only [Bool.and_eq_true] at hc
    obtain ⟨hc, hl2⟩ := hc
    obtain ⟨_, hs, j, rfl, hj⟩ := cnt_spec hc
    rw [Int.toNat_natCast] at hk
    have hl2' := of_decide_eq_true hl2
    refine Eq.trans (b := bif decide ((↑j : Int) < (↑l.length : Int)) then bif inb (↑j : Int) l.length then bif inb (↑j : Int) l2.length then bif !((dE (l.getD j AV.unk)) == (dE (l2.getD j AV.unk)) && ((rE (l.getD j AV.unk)) == (rE (l2.getD j AV.unk)) && true)) then k Ex.ret [AV.bool false, AV.slv (Sh.agg [Sh.str, Sh.int IntKind.i64]) l, AV.slv (Sh.agg [Sh.str, Sh.int IntKind.i64]) l2, AV.int IntKind.i64 (↑j : Int)] [] else bif decide (((↑l.length : Int) - IntKind.i64.wrap ((↑j : Int) + (1 : Int))).toNat < ((↑l.length : Int) - (↑j : Int)).toNat) then bif cnt (↑l.length : Int) (IntKind.i64.wrap ((↑j : Int) + (1 : Int))) l.length && decide (l2.length = l.length) then bif (findN (dfB l l2) l.length (IntKind.i64.wrap ((↑j : Int) + (1 : Int))).toNat).isSome then k Ex.ret [AV.bool false, AV.slv (Sh.agg [Sh.str, Sh.int IntKind.i64]) l, AV.slv (Sh.agg [Sh.str, Sh.int IntKind.i64]) l2, AV.int IntKind.i64 (↑((findN (dfB l l2) l.length (IntKind.i64.wrap ((↑j : Int) + (1 : Int))).toNat).getD (0 : Nat)) : Int)] [] else k (Ex.exit (4 : Nat)) [AV.bool b, AV.slv (Sh.agg [Sh.str, Sh.int IntKind.i64]) l, AV.slv (Sh.agg [Sh.str, Sh.int IntKind.i64]) l2, AV.int IntKind.i64 (↑l.length : Int)] [] else none else none else none else none else k (Ex.exit (4 : Nat)) [AV.bool b, AV.slv (Sh.agg [Sh.str, Sh.int IntKind.i64]) l, AV.slv (Sh.agg [Sh.str, Sh.int IntKind.i64]) l2, AV.int IntKind.i64 (↑j : Int)] []) (by kernel_rfl) ?_
    rw [← hk]
    by_cases hlt : j < l.length
    · obtain ⟨e1, e2, e3, e4, e5⟩ := cnt_facts hlt hs
      have e2' : inb (j : Int) l2.length = true := inb_true (by omega) (by omega)
      rw [sT_step _ _ _ _ _ hlt]
      have hb : dfB l l2 j = !(dE (l.getD j .unk) == dE (l2.getD j .unk) && rE (l.getD j .unk) == rE (l2.getD j .unk)) := rfl
      rw [hb, e3, Bool.and_true]
      simp only [Int.toNat_natCast]
      refine Eq.trans (cond_t e1) (Eq.trans (cond_t e2) (Eq.trans (cond_t e2') ?_))
      cases dE (l.getD j .unk) == dE (l2.getD j .unk) && rE (l.getD j .unk) == rE (l2.getD j .unk)
      · rfl
      · exact Eq.trans (cond_f rfl) (Eq.trans (cond_t e5) (Eq.trans (cond_t (and_t e4 hl2)) rfl))
    · obtain rfl : j = l.length := by omega
      rw [decide_eq_false (by omega), sT_end]
      rfl
  · cases h
theorem eqF_sl (s : List UInt8) : eqF s sgL = eqF s sgF := by
  unfold eqF
  rw [show lowS sgL = lowS sgF from by decide]
  rfl
theorem pkF_sl (es : List AV) : pkF sgL es = pkF sgF es := by
  unfold pkF
  simp only [eqF_sl]
theorem pk_shX {es : List AV} (hv : es.all okV = true) : (pkF sgF es).all shX = true := List.all_eq_true.2 fun e he => by
  unfold pkF at he
  obtain ⟨f, hf, rfl⟩ := List.mem_map.1 he
  have hov := List.all_eq_true.1 hv f (List.mem_filter.1 hf).1
  have h2 : (fN f).length ≤ 60 ∧ (fV f).length ≤ 4000 := of_decide_eq_true hov
  exact decide_eq_true (by show (fV f).length ≤ _; omega)
theorem mrB_len (bs : List AV) : (mrB bs).length ≤ bs.length + 3 := by
  unfold mrB
  cases decide (0 < bs.length) && !(iE (bs.getD (bs.length - 1) .unk) == 10)
  · show (bs ++ blA).length ≤ _; rw [List.length_append]; exact Nat.le_refl _
  · show bs.length ≤ _; omega
theorem mrB_all {bs : List AV} (h : bs.all bE = true) : (mrB bs).all bE = true := by
  unfold mrB
  cases decide (0 < bs.length) && !(iE (bs.getD (bs.length - 1) .unk) == 10)
  · show (bs ++ blA).all bE = true; rw [List.all_append, h]; rfl
  · exact h
theorem vf_zero {es bs kk : List AV} (h : (vfC es bs kk == 0) = true) : (vdC es bs == 0) = true ∧ (kyC kk == 0) = true := by
  unfold vfC at h
  cases h1 : vdC es bs == 0
  · rw [h1] at h; simp only [Bool.not_false, cond_true] at h; rw [h1] at h; cases h
  · rw [h1] at h; exact ⟨rfl, h⟩
theorem dfB_none (l : List AV) : findN (dfB l l) l.length 0 = none := findN_of_none fun j _ _ => by
  unfold dfB
  rw [beq_self_eq_true, beq_self_eq_true]
  rfl
theorem veL_len (es bs kk l : List AV) : (veL es bs kk l).length ≤ l.length := by
  unfold veL
  rw [List.length_map]
  exact List.length_filter_le _ _
theorem no_names {n : List UInt8} {P : List AV} (h : (findN (baB n P) P.length 0).isSome = false) : ∀ x, AV.str x ∈ P → vkB x = true → ∀ m ∈ nsq (q4 x 1), eqF (sE m) n = false := fun x hx hv m hm => by
  obtain ⟨i, hi, he⟩ := List.getElem_of_mem hx
  have hg : P.getD i .unk = .str x := by rw [getD_eq hi]; exact he
  have hn : findN (baB n P) P.length 0 = none := by
    cases hh : findN (baB n P) P.length 0
    · rfl
    · rw [hh] at h; cases h
  have hb := findN_none hn i (Nat.zero_le i) hi
  have hs : sE (P.getD i .unk) = x := by rw [hg]; rfl
  unfold baB at hb
  rw [hs, hv, Bool.true_and] at hb
  have hB : nmV x = nsq (q4 x 1) := by
    unfold vkB at hv
    rw [Bool.and_eq_true] at hv
    unfold nmV
    rw [hv.1]; rfl
  rw [hB] at hb
  obtain ⟨q, hq, hqe⟩ := List.getElem_of_mem hm
  have hn2 : findN (alB n (nsq (q4 x 1))) (nsq (q4 x 1)).length 0 = none := by
    cases hh : findN (alB n (nsq (q4 x 1))) (nsq (q4 x 1)).length 0
    · rfl
    · rw [hh] at hb; cases hb
  have := findN_none hn2 q (Nat.zero_le q) hq
  unfold alB at this
  rw [getD_eq hq, hqe] at this
  exact this
theorem tail7 {es bs bs' kk : List AV} {n v : List UInt8} (hm : Msg es bs) (hk : Kys kk) (hn : small n.length = true) (hvs : small v.length = true) (h0 : (vfC es bs kk == 0) = true) (hb : bs'.all bE = true) (hl : bs'.length ≤ 20000) (hbd : (bdyF bs').1 = (bdyF bs).1) (hf : eqF n sgF = false) (hno : ∀ x, AV.str x ∈ pkF sgF es → vkB x = true → ∀ m ∈ nsq (q4 x 1), eqF (sE m) n = false) :
    (bif small (AV.agg [AV.str n, AV.str v] :: es).length && ((AV.agg [AV.str n, AV.str v] :: es).all okF && decide (bs'.length ≤ 141000000000000)) then bif vdC (AV.agg [AV.str n, AV.str v] :: es) bs' != 0 then some (AV.bool true) else bif small (AV.agg [AV.str n, AV.str v] :: es).length && (AV.agg [AV.str n, AV.str v] :: es).all okF && (bs'.all bE && decide (bs'.length ≤ 141000000000000) && (small kk.length && kk.all okK)) then bif vfC (AV.agg [AV.str n, AV.str v] :: es) bs' kk != 0 then some (AV.bool false) else bif ((vfL (AV.agg [AV.str n, AV.str v] :: es) bs' kk).length : Int) != ((vfL es bs kk).length : Int) then some (AV.bool false) else bif cnt ((vfL es bs kk).length : Int) 0 (vfL es bs kk).length && decide ((vfL (AV.agg [AV.str n, AV.str v] :: es) bs' kk).length = (vfL es bs kk).length) then bif (findN (dfB (vfL es bs kk) (vfL (AV.agg [AV.str n, AV.str v] :: es) bs' kk)) (vfL es bs kk).length 0).isSome then some (AV.bool false) else some (AV.bool true) else none else none else none) = some (AV.bool true) := by
  obtain ⟨h1, h2⟩ := vf_zero h0
  have h60 := hv_len (vd_hv h1)
  have hMl : small (AV.agg [AV.str n, AV.str v] :: es).length = true := decide_eq_true (by show es.length + 1 ≤ _; omega)
  have hMa : (AV.agg [AV.str n, AV.str v] :: es).all okF = true := by
    show ((small n.length && small v.length) && es.all okF) = true
    rw [hm.ok, hn, hvs]
    rfl
  have hd : decide (bs'.length ≤ 141000000000000) = true := decide_eq_true (by omega)
  refine Eq.trans (cond_t (and_t hMl (and_t hMa hd))) ?_
  cases h3 : vdC (AV.agg [AV.str n, AV.str v] :: es) bs' == 0
  · exact cond_t (by simp only [bne, h3, Bool.not_false])
  have hc : (vfC (AV.agg [AV.str n, AV.str v] :: es) bs' kk == 0) = true := by unfold vfC; rw [h3]; exact h2
  have hL0 : vfL es bs kk = veL es bs kk es := by unfold vfL; rw [h0]; rfl
  have hL1 : vfL (AV.agg [AV.str n, AV.str v] :: es) bs' kk = veL es bs kk es := by
    unfold vfL
    rw [hc]
    exact ve_more h1 h3 hbd hf hno
  have hvl := veL_len es bs kk es
  rw [hL0, hL1, dfB_none]
  refine Eq.trans (cond_f (by simp only [bne, h3, Bool.not_true])) (Eq.trans (cond_t (and_t (and_t hMl hMa) (and_t (and_t hb hd) (and_t hk.ks hk.ok)))) (Eq.trans (cond_f (by simp only [bne, hc, Bool.not_true])) (Eq.trans (cond_f (by simp only [bne, beq_self_eq_true, Bool.not_true])) (Eq.trans (cond_t (and_t (cnt_zero (small_t (by omega))) (decide_eq_true rfl))) ?_))))
  rfl
theorem law7 (es bs kk : List AV) (n v : List UInt8) (hm : Msg es bs) (hk : Kys kk) (hn : small n.length = true) (hv : small v.length = true) : evF Tryz.prog G7 [(6, l7), (10, m7), (23, n7)] Tryz.f7 AV [.agg [.slv (.agg [.str, .str]) es, .slv (.int .u8) bs], .slv (.agg [.str, .int .u64]) kk, .str n, .str v] some = some (.bool true) := by
  refine Eq.trans (b := bif small es.length && es.all okF && (bs.all bE && decide (bs.length ≤ (141000000000000 : Nat)) && (small kk.length && kk.all okK)) then bif vfC es bs kk != (0 : Int) then some (AV.bool true) else bif small n.length && small ([109, 97, 105, 108, 45, 115, 105, 103, 110, 97, 116, 117, 114, 101] : List UInt8).length then bif eqF n ([109, 97, 105, 108, 45, 115, 105, 103, 110, 97, 116, 117, 114, 101] : List UInt8) then some (AV.bool true) else bif es.all okF && (small ([109, 97, 105, 108, 45, 115, 105, 103, 110, 97, 116, 117, 114, 101] : List UInt8).length && decide (es.length ≤ (1000000 : Nat))) then bif cnt (↑(pkF ([109, 97, 105, 108, 45, 115, 105, 103, 110, 97, 116, 117, 114, 101] : List UInt8) es).length : Int) (0 : Int) (pkF ([109, 97, 105, 108, 45, 115, 105, 103, 110, 97, 116, 117, 114, 101] : List UInt8) es).length && ((pkF ([109, 97, 105, 108, 45, 115, 105, 103, 110, 97, 116, 117, 114, 101] : List UInt8) es).all shX && small n.length) then bif (findN (baB n (pkF ([109, 97, 105, 108, 45, 115, 105, 103, 110, 97, 116, 117, 114, 101] : List UInt8) es)) (pkF ([109, 97, 105, 108, 45, 115, 105, 103, 110, 97, 116, 117, 114, 101] : List UInt8) es).length (0 : Nat)).isSome then some (AV.bool true) else bif roomB ([AV.agg [AV.str n, AV.str v]].length + es.length) (Tryz.prog.bytesOf (45 : Nat)) then bif roomB bs.length (Tryz.prog.bytesOf (5 : Nat)) then bif roomB (bs.length + blA.length) (Tryz.prog.bytesOf (5 : Nat)) then bif decide ((↑bs.length : Int) > (0 : Int)) then bif inb (IntKind.i64.wrap ((↑bs.length : Int) - (1 : Int))) bs.length then bif (iE (bs.getD (IntKind.i64.wrap ((↑bs.length : Int) - (1 : Int))).toNat AV.unk)) != (10 : Int) then bif small (AV.agg [AV.str n, AV.str v] :: es).length && ((AV.agg [AV.str n, AV.str v] :: es).all okF && decide (bs.length ≤ (141000000000000 : Nat))) then bif vdC (AV.agg [AV.str n, AV.str v] :: es) bs != (0 : Int) then some (AV.bool true) else bif small (AV.agg [AV.str n, AV.str v] :: es).length && (AV.agg [AV.str n, AV.str v] :: es).all okF && (bs.all bE && decide (bs.length ≤ (141000000000000 : Nat)) && (small kk.length && kk.all okK)) then bif vfC (AV.agg [AV.str n, AV.str v] :: es) bs kk != (0 : Int) then some (AV.bool false) else bif (↑(vfL (AV.agg [AV.str n, AV.str v] :: es) bs kk).length : Int) != (↑(vfL es bs kk).length : Int) then some (AV.bool false) else bif cnt (↑(vfL es bs kk).length : Int) (0 : Int) (vfL es bs kk).length && decide ((vfL (AV.agg [AV.str n, AV.str v] :: es) bs kk).length = (vfL es bs kk).length) then bif (findN (dfB (vfL es bs kk) (vfL (AV.agg [AV.str n, AV.str v] :: es) bs kk)) (vfL es bs kk).length (0 : Nat)).isSome then some (AV.bool false) else some (AV.bool true) else none else none else none else bif small (AV.agg [AV.str n, AV.str v] :: es).length && ((AV.agg [AV.str n, AV.str v] :: es).all okF && decide ((bs ++ blA).length ≤ (141000000000000 : Nat))) then bif vdC (AV.agg [AV.str n, AV.str v] :: es) (bs ++ blA) != (0 : Int) then some (AV.bool true) else bif small (AV.agg [AV.str n, AV.str v] :: es).length && (AV.agg [AV.str n, AV.str v] :: es).all okF && ((bs ++ blA).all bE && decide ((bs ++ blA).length ≤ (141000000000000 : Nat)) && (small kk.length && kk.all okK)) then bif vfC (AV.agg [AV.str n, AV.str v] :: es) (bs ++ blA) kk != (0 : Int) then some (AV.bool false) else bif (↑(vfL (AV.agg [AV.str n, AV.str v] :: es) (bs ++ blA) kk).length : Int) != (↑(vfL es bs kk).length : Int) then some (AV.bool false) else bif cnt (↑(vfL es bs kk).length : Int) (0 : Int) (vfL es bs kk).length && decide ((vfL (AV.agg [AV.str n, AV.str v] :: es) (bs ++ blA) kk).length = (vfL es bs kk).length) then bif (findN (dfB (vfL es bs kk) (vfL (AV.agg [AV.str n, AV.str v] :: es) (bs ++ blA) kk)) (vfL es bs kk).length (0 : Nat)).isSome then some (AV.bool false) else some (AV.bool true) else none else none else none else none else bif small (AV.agg [AV.str n, AV.str v] :: es).length && ((AV.agg [AV.str n, AV.str v] :: es).all okF && decide ((bs ++ blA).length ≤ (141000000000000 : Nat))) then bif vdC (AV.agg [AV.str n, AV.str v] :: es) (bs ++ blA) != (0 : Int) then some (AV.bool true) else bif small (AV.agg [AV.str n, AV.str v] :: es).length && (AV.agg [AV.str n, AV.str v] :: es).all okF && ((bs ++ blA).all bE && decide ((bs ++ blA).length ≤ (141000000000000 : Nat)) && (small kk.length && kk.all okK)) then bif vfC (AV.agg [AV.str n, AV.str v] :: es) (bs ++ blA) kk != (0 : Int) then some (AV.bool false) else bif (↑(vfL (AV.agg [AV.str n, AV.str v] :: es) (bs ++ blA) kk).length : Int) != (↑(vfL es bs kk).length : Int) then some (AV.bool false) else bif cnt (↑(vfL es bs kk).length : Int) (0 : Int) (vfL es bs kk).length && decide ((vfL (AV.agg [AV.str n, AV.str v] :: es) (bs ++ blA) kk).length = (vfL es bs kk).length) then bif (findN (dfB (vfL es bs kk) (vfL (AV.agg [AV.str n, AV.str v] :: es) (bs ++ blA) kk)) (vfL es bs kk).length (0 : Nat)).isSome then some (AV.bool false) else some (AV.bool true) else none else none else none else none else none else none else none else none else none else none) (by kernel_rfl) ?_
  have hpk : pkF ([109, 97, 105, 108, 45, 115, 105, 103, 110, 97, 116, 117, 114, 101] : List UInt8) es = pkF sgF es := pkF_sl es
  have hes : eqF n ([109, 97, 105, 108, 45, 115, 105, 103, 110, 97, 116, 117, 114, 101] : List UInt8) = eqF n sgF := eqF_sl n
  rw [hpk, hes]
  refine Eq.trans (cond_t (and_t (and_t hm.es hm.ok) (and_t (and_t hm.by_ hm.bs) (and_t hk.ks hk.ok)))) ?_
  cases h0 : vfC es bs kk == 0
  · exact cond_t (by simp only [bne, h0, Bool.not_false])
  refine Eq.trans (cond_f (by simp only [bne, h0, Bool.not_true])) (Eq.trans (cond_t (and_t hn rfl)) ?_)
  cases hf : eqF n sgF
  · obtain ⟨h1, h2⟩ := vf_zero h0
    have h60 := hv_len (vd_hv h1)
    have hpl := pkF_len sgF es
    have hps := pk_shX (hv_ok (vd_hv h1))
    refine Eq.trans (cond_f rfl) (Eq.trans (cond_t (and_t hm.ok (and_t rfl (decide_eq_true (by omega))))) (Eq.trans (cond_t (and_t (cnt_zero (small_t (by omega))) (and_t hps hn))) ?_))
    cases hno : (findN (baB n (pkF sgF es)) (pkF sgF es).length 0).isSome
    · have hno := no_names hno
      have hbl := (cbZ0 h1).2
      refine Eq.trans (cond_f rfl) (Eq.trans (cond_t (roomB_small (by show 1 + es.length ≤ _; omega) by45)) (Eq.trans (cond_t (room5 (by omega))) (Eq.trans (cond_t (room5 (by show _ + 3 ≤ _; omega))) ?_)))
      have hT := tail7 (bs' := mrB bs) (v := v) hm hk hn hv h0 (mrB_all hm.by_) (by have := mrB_len bs; omega) (mrB_same hm.by_ h1) hf hno
      by_cases hb0 : 0 < bs.length
      · have hw : IntKind.i64.wrap ((bs.length : Int) - 1) = ((bs.length - 1 : Nat) : Int) := by rw [wrap_mid _ (by omega) (by omega)]; omega
        rw [hw]
        simp only [Int.toNat_natCast]
        refine Eq.trans (cond_t (decide_eq_true (by omega))) (Eq.trans (cond_t (inb_true (by omega) (by omega))) ?_)
        cases h10 : iE (bs.getD (bs.length - 1) .unk) == 10
        · have hM : mrB bs = bs := by unfold mrB; rw [h10, decide_eq_true hb0]; rfl
          rw [hM] at hT
          exact Eq.trans (cond_t (by simp only [bne, h10, Bool.not_false])) hT
        · have hM : mrB bs = bs ++ blA := by unfold mrB; rw [h10, decide_eq_true hb0]; rfl
          rw [hM] at hT
          exact Eq.trans (cond_f (by simp only [bne, h10, Bool.not_true])) hT
      · have hM : mrB bs = bs ++ blA := by unfold mrB; rw [decide_eq_false hb0]; rfl
        rw [hM] at hT
        exact Eq.trans (cond_f (decide_eq_false (by omega))) hT
    · rfl
  · rfl
theorem okL7 : SumOK Tryz.prog 7 (evF Tryz.prog G7 [(6, l7), (10, m7), (23, n7)] Tryz.f7) := sums (bs := [b7, c7, d7]) g7 Tryz.func7 (by kernel_rfl) (fun b hb => by
  simp only [List.mem_cons, List.mem_nil_iff, or_false] at hb
  rcases hb with rfl | rfl | rfl
  · exact ⟨l7, by kernel_rfl, loop7⟩
  · exact ⟨m7, by kernel_rfl, loop7m⟩
  · exact ⟨n7, by kernel_rfl, loop7n⟩) fun _ _ _ _ h => h
theorem spec7 (H : Type) : ∀ ds : List (DataW H), ds.length = Tryz.f7.params.size → Rows.signSurvivesRelaysSpec.fn H ds = { results := [.lit (.bool true)], args := ds }
  | [_, _, _, _], _ => rfl
set_option maxRecDepth 100000 in
theorem lifted7 (os : Os) (started : os.Started) (H : Type) (enc : TypeId × Value → H) :
    ReturnsInHanded {} Tryz.checked os 7 .any (fun w args => (Rows.signSurvivesRelaysSpec.pre enc Tryz.prog Tryz.f7 Rows.signSurvivesRelaysRow.domain false w args ∧ laidMetH Tryz.prog Rows.signSurvivesRelaysRow.laid w) ∧ sizedMet enc Tryz.prog Tryz.f7 (OpenSpec.ofChange Rows.signSurvivesRelaysSpec) false w args)
      (Rows.signSurvivesRelaysSpec.post enc Tryz.prog Tryz.f7 false true false false) := by
  refine hand_shaped (C := Tryz.checked) (X := fun w _ => laidMetH Tryz.prog Rows.signSurvivesRelaysRow.laid w) (fun _ _ _ hh h => h.of_heap hh) own started (by kernel_rfl) Tryz.func7
    (ChangeSpec.witness_shaped (enc := enc) (C := Tryz.checked) (os := os) (X := fun w _ => laidMetH Tryz.prog Rows.signSurvivesRelaysRow.laid w) false (World.laidAll Tryz.prog os Rows.signSurvivesRelaysRow.laid) #[.agg #[.slice none 0 0, .slice none 0 0], .slice none 0 0, .string ⟨#[]⟩, .string ⟨#[]⟩] 8 (World.laidAll_os _ _ _)
      (World.shaped_of_ZipB (by kernel_rfl) (by kernel_rfl)) (by kernel_rfl) (by kernel_rfl) (by kernel_rfl)
      (by rw [MakeChecks.laidMetH_plain _ _ _ (by kernel_rfl)]; exact laidMet_laidAll _ (by kernel_rfl) (by kernel_rfl))) ?_
  intro W base args ds gs before hval hW hz hsh
  refine contract_of (bk H) (n := 12) (tb := 4) (F := evF Tryz.prog G7 [(6, l7), (10, m7), (23, n7)] Tryz.f7) (by kernel_rfl) (by kernel_rfl) (by kernel_rfl) rfl (by kernel_rfl) (by kernel_rfl) (spec7 H) (okL7) (fun avs hg => ?_) hval hz hW (glb_of hsh)
  have hh : hasAll [.agg [.slice (.agg [.str, .str]), .slice (.int .u8)], .slice (.agg [.str, .int .u64]), .str, .str] avs = true := hg.has
  obtain ⟨v0, cs, rfl, h0, hh⟩ := hasAll_cons hh
  obtain ⟨v1, cs, rfl, h1, hh⟩ := hasAll_cons hh
  obtain ⟨v2, cs, rfl, h2, hh⟩ := hasAll_cons hh
  obtain ⟨v3, cs, rfl, h3, hh⟩ := hasAll_cons hh
  obtain rfl := hasAll_nil hh
  obtain ⟨es, bs, rfl, hm⟩ := open_msg h0 (hg.fit _ (by simp))
  obtain ⟨kk, rfl, hk⟩ := open_keys h1 (hg.fit _ (by simp))
  obtain ⟨n, rfl⟩ := has_str h2
  obtain ⟨v, rfl⟩ := has_str h3
  have hn := fit_str (hg.fit (.str n) (by simp))
  have hv := fit_str (hg.fit (.str v) (by simp))
  exact law7 es bs kk n v hm hk hn hv
theorem row_holds7 : Rows.SignSurvivesRelaysSaid :=
  OpenClaim.holds_of_wide 7 Tryz.f7 rfl rfl rfl rfl rfl rfl rfl ⟨rfl, rfl, rfl, rfl, rfl⟩ rfl rfl rfl rfl rfl (by kernel_rfl) Tryz.func7 (by kernel_rfl)
    (of_decide_eq_true (by kernel_rfl)) (by unfold Func.isWrapper; first | (rw [if_pos (by decide +kernel)]; kernel_rfl) | (rw [if_neg (by decide +kernel)]; exact ⟨rfl, rfl⟩))
    (fun os started H enc _ => lifted7 os started H enc)
theorem sign_survives_relays : Rows.SignSurvivesRelaysCardSaid :=
  Claim7.holds_tied_plain_at .later [] [.data, .pinned] true (true, "c42626e2726d00c1893b9eec8006167c47ada7340b544c8011cb9df5be4c1095") false row_holds7 (fun _ h => by cases h) (by kernel_rfl) (fun _ h => by cases h) signSurvivesRelays_row_tie rfl ⟨rfl, rfl⟩ (by kernel_rfl) rfl
    (fun f fn hf hfn => by
      obtain rfl : f = 7 := Option.some.inj ((show Tryz.prog.funcNamed "posthouse/posthouselaw5.SignSurvivesRelays" = some 7 by kernel_rfl).symm.trans hf) |>.symm
      obtain rfl : fn = Tryz.f7 := (Option.some.inj (Tryz.func7.symm.trans hfn)).symm
      exact ⟨by kernel_rfl, fun j t ht => by
        have hm : t ∈ Tryz.f7.params.toList := Array.mem_def.1 (Array.mem_of_getElem? ht)
        have hall : (Tryz.f7.params.toList.all fun u => !Tryz.prog.wantsStandIn u) = true := by kernel_rfl
        exact (show Tryz.prog.wantsStandIn t = false by simpa using List.all_eq_true.1 hall t hm)⟩)
    (by kernel_rfl)
end Go.Proofs.YthdhfmdhjanoaaaGreatDoor
