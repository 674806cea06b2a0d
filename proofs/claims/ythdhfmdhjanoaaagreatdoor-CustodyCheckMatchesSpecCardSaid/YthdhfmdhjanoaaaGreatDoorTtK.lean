/-
  The document's parts of a seal, and whether one is right.
-/
import Derived.Test.YthdhfmdhjanoaaaGreatDoorTsU
import Derived.Test.YthdhfmdhjanoaaaGreatDoorEvY
import Derived.Test.YthdhfmdhjanoaaaGreatDoorRows
import Derived.WalkKit
import Derived.ProofKit
import Derived.OpenShut
import Derived.HandedShaped
import Derived.Shelf.Vars

namespace Go.Proofs.YthdhfmdhjanoaaaGreatDoor
open Go.Ev Go.RowKit
def F84p : List AV → Tr AV
  | [.str s, .str sep] => .gd (decide (s.length < 4294967281) && decide (1 ≤ sep.length)) (.leaf (.slv .str ((Lib.split s sep).map AV.str)))
  | _ => .no
theorem ok84p : SumOK Tryz.prog 84 (ofT F84p) ∧ SNat (ofT F84p) := by
  refine ⟨fun ρ w S avs args k r hS hv h => ?_, snat_ofT _⟩
  change (F84p avs).run k = some r at h
  unfold F84p at h
  split at h
  · rename_i s sep
    obtain ⟨hc, hk⟩ := gd_some h
    simp only [Bool.and_eq_true, decide_eq_true_eq] at hc
    obtain ⟨hs, hp⟩ := hc
    obtain ⟨v, vs, rfl, h1, hv⟩ := hv.inv
    obtain ⟨u, us, rfl, h2, hv⟩ := hv.inv
    obtain rfl := hv.inv_nil
    rw [h1.str_inv, h2.str_inv]
    obtain ⟨mx, hmx⟩ := hS.2 w (Kept.refl _ _)
    refine .inl ⟨by kernel_rfl, (Tryz.strings_Split ⟨s.toArray⟩ ⟨sep.toArray⟩ mx w (by rw [size_mk]; exact hs) hmx (by rw [size_mk]; exact hp)).mono fun e w' hq => ?_⟩
    obtain ⟨he, hw⟩ := hq
    rw [← split_len s sep hp] at he
    rw [split_eq] at hw
    have hnew := heap_new w (.cells ((Lib.split s sep).map fun x => Value.string ⟨x.toArray⟩).toArray 9)
    have hold : ∀ k, k < w.heap.size → w'.heap[k]? = w.heap[k]? := fun k hk => by rw [hw]; exact heap_old w _ hk
    have hsz : w'.heap.size = w.heap.size + 1 := by rw [hw]; simp
    have hbel : Below w.heap.size w w' := ⟨by rw [hw]; rfl, by rw [hw]; rfl, by rw [hw]; rfl, by omega, hold⟩
    have hlie : Lies w' w.heap.size ((Lib.split s sep).map fun x => Value.string ⟨x.toArray⟩).toArray 9 false := ⟨_, .inl rfl, by rw [hw]; exact hnew⟩
    have hle := split_le s sep hp
    refine ⟨_, _, fun b => b = w.heap.size, he, hk, hbel, fun b hb => .inr (by omega), fun b hb => by omega, ?_⟩
    have hrel : VRel w' (fun b => b = w.heap.size) nob (.slv .str ((Lib.split s sep).map AV.str)) (.slice (some ⟨w.heap.size, 0, none⟩) ((Lib.split s sep).map AV.str).length (Lib.split s sep).length) := by
      refine .slv nob .str ((Lib.split s sep).map AV.str) (some ⟨w.heap.size, 0, none⟩) (Lib.split s sep).length ⟨w.heap.size, 0, none⟩ ((Lib.split s sep).map fun x => Value.string ⟨x.toArray⟩) ?_ ?_ ?_ (fun _ => ⟨rfl, rfl⟩) ?_ ?_ ?_ ?_
      · intro e he
        obtain ⟨y, _, rfl⟩ := List.mem_map.1 he
        rfl
      · rw [List.length_map]; exact Nat.le_refl _
      · unfold maxLen; omega
      · rw [flat_strs]; simp
      · intro u hu
        obtain ⟨y, _, rfl⟩ := List.mem_map.1 hu
        rfl
      · intro j u hu
        rw [add_lit, row_cell hlie]
        simpa using hu
      · intro j c u hc hu
        rw [flat_strs] at hc
        rw [List.getElem?_map] at hc hu
        cases hj : (Lib.split s sep)[j]? with
        | none => rw [hj] at hc; simp at hc
        | some y => rw [hj] at hc hu; simp at hc hu; subst hc hu; exact .str _ _
    rw [List.length_map] at hrel
    exact hrel
  · cases h
theorem nm_len {s : List UInt8} (h : nmS s = true) : s.length ≤ 60 ∧ 1 ≤ s.length := by
  unfold nmS at h
  simp only [Bool.and_eq_true] at h
  obtain ⟨h1, h2⟩ := inR_spec h.2
  omega
theorem join_len (p : List UInt8) (b : Nat) : ∀ l : List (List UInt8), (∀ x ∈ l, x.length ≤ b) → (Lib.join l p).length ≤ l.length * (b + p.length)
  | [], _ => Nat.zero_le _
  | [x], h => by
    rw [Lib.join_one]
    have := h x (by simp)
    simp only [List.length_cons, List.length_nil]
    omega
  | x :: y :: l, h => by
    rw [join_cons2 x (by simp), List.length_append, List.length_append]
    have h1 := h x (by simp)
    have h2 := join_len p b (y :: l) fun z hz => h z (by simp [hz])
    rw [List.length_cons (a := x), Nat.succ_mul]
    omega
theorem strL_sL {ns : List AV} (h : ns.all okN = true) : strL ns = sL ns := by
  unfold strL sL
  refine List.map_congr_left fun e he => ?_
  have := List.all_eq_true.1 h e he
  unfold okN isS at this
  cases e <;> simp at this
  rfl
theorem nam_all {ns : List AV} (h : namB ns = true) : ns.length ≤ 20 ∧ 1 ≤ ns.length ∧ ∀ e ∈ ns, nmS (sE e) = true ∧ (sE e == sgL) = false := by
  unfold namB at h
  simp only [Bool.and_eq_true, Bool.not_eq_true'] at h
  obtain ⟨h1, h2⟩ := inR_spec h.1
  refine ⟨by omega, by omega, fun e he => ?_⟩
  obtain ⟨i, hi, rfl⟩ := List.getElem_of_mem he
  have hw : wrE ns i = false := by
    cases hf : findN (wrE ns) ns.length 0 with
    | none => exact findN_none hf i (Nat.zero_le _) hi
    | some q => rw [hf] at h; cases h.2
  unfold wrE at hw
  rw [getD_eq hi, wrB_eq] at hw
  simpa using hw
theorem nam_len {ns : List AV} (h : namB ns = true) : ns.length ≤ 20 ∧ (Lib.join (sL ns) [58]).length ≤ 2000 := by
  obtain ⟨h1, _, h3⟩ := nam_all h
  refine ⟨h1, ?_⟩
  have := join_len [58] 60 (sL ns) fun x hx => by
    obtain ⟨e, he, rfl⟩ := List.mem_map.1 hx
    exact (nm_len (h3 e he).1).1
  have hl : (sL ns).length = ns.length := List.length_map _
  rw [hl] at this
  have h2 : ([58] : List UInt8).length = 1 := rfl
  rw [h2] at this
  omega
theorem vd_hv {es bs : List AV} (h : (vdC es bs == 0) = true) : (hvC es == 0) = true := by
  unfold vdC at h
  cases h0 : hvC es == 0
  · rw [h0] at h; simp only [Bool.not_false, cond_true] at h; rw [h0] at h; cases h
  · rfl
theorem vaS_len {key : Int} {d : List UInt8} {ns es bs : List AV} (hd : d.length ≤ 60) (hj : (Lib.join (strL ns) [58]).length ≤ 2000) : (vaS key d ns es bs).length ≤ 3000 := by
  unfold vaS
  cases vaB es bs ns
  · exact Nat.zero_le _
  · show (sgS _ _ _ _ _).length ≤ _
    unfold sgS sgFr
    simp only [List.length_append, List.length_cons, List.length_nil, hexS_len]
    omega
noncomputable def G17 : Env := { pure := [(18, ofT F18), (42, ofT F19), (44, ofT F44), (45, ofT F45), (46, ofT F46), (41, evF Tryz.prog G0 [] Tryz.f41), (43, evF Tryz.prog G0 [] Tryz.f43), (47, evF Tryz.prog G0 [] Tryz.f47)] }
theorem g17 : GOK Tryz.prog G17 := GOK.also (GOK.also (GOK.also (GOK.also (GOK.also (GOK.also (GOK.also (GOK.also g0 (inl g0 Tryz.func47 (by kernel_rfl))) (inl g0 Tryz.func43 (by kernel_rfl))) (inl g0 Tryz.func41 (by kernel_rfl))) ok46) ok45) ok44) ok42') ok18
def sgM (key : Int) (d : List UInt8) (ns es bs : List AV) : List AV := .agg [.str sgF, .str (vaS key d ns es bs)] :: es
def siC (key : Int) (d : List UInt8) (ns es bs : List AV) : Int := bif !(vdC es bs == 0) then vdC es bs else bif !nmS d then 10 else bif !namB ns then 10 else bif !vaB es bs ns then 17 else vdC (sgM key d ns es bs) bs
def siI (key : Int) (d : List UInt8) (ns es bs : List AV) : Int := bif !(vdC es bs == 0) then vdI es bs else bif !nmS d then -20 else bif !namB ns then -21 else bif !vaB es bs ns then -22 else bif !(vdC (sgM key d ns es bs) bs == 0) then -23 else 0
def siF (key : Int) (d : List UInt8) (ns es bs : List AV) : List AV := bif siC key d ns es bs == 0 then sgM key d ns es bs else []
def siB (key : Int) (d : List UInt8) (ns es bs : List AV) : List AV := bif siC key d ns es bs == 0 then bs else []
def F17 : List AV → Tr AV
  | [.agg [.slv (.agg [.str, .str]) es, .slv (.int .u8) bs], .str d, .int .u64 key, .slv .str ns] => .gd ((small es.length && es.all okF) && ((small ns.length && ns.all okN) && (bs.all bE && (small d.length && decide (bs.length ≤ 141000000000000))))) (.leaf (.tup [.agg [.slv (.agg [.str, .str]) (siF key d ns es bs), .slv (.int .u8) (siB key d ns es bs)], .agg [.int .i64 (siC key d ns es bs), .int .i64 (siI key d ns es bs)]]))
  | _ => .no
theorem ok17 : SumOK Tryz.prog 17 (ofT F17) ∧ SNat (ofT F17) := by
  refine fn0 g17 Tryz.func17 (by kernel_rfl) fun ρ avs k r h => ?_
  unfold F17 at h
  split at h
  · rename_i es bs d key ns
    obtain ⟨hc, hk⟩ := gd_some h
    refine Eq.trans (b := bif small es.length && (es.all okF && decide (bs.length ≤ (141000000000000 : Nat))) then bif vdC es bs != (0 : Int) then k (AV.tup [AV.agg [AV.slv (Sh.agg [Sh.str, Sh.str]) [], AV.slv (Sh.int IntKind.u8) []], AV.agg [AV.int IntKind.i64 (vdC es bs), AV.int IntKind.i64 (vdI es bs)]]) else bif small d.length then bif !nmS d then k (AV.tup [AV.agg [AV.slv (Sh.agg [Sh.str, Sh.str]) [], AV.slv (Sh.int IntKind.u8) []], AV.agg [AV.int IntKind.i64 (10 : Int), AV.int IntKind.i64 (-20 : Int)]]) else bif small ns.length && ns.all okN then bif !namB ns then k (AV.tup [AV.agg [AV.slv (Sh.agg [Sh.str, Sh.str]) [], AV.slv (Sh.int IntKind.u8) []], AV.agg [AV.int IntKind.i64 (10 : Int), AV.int IntKind.i64 (-21 : Int)]]) else bif small es.length && (es.all okF && ns.all okN) && (bs.all bE && decide (d.length ≤ (1000000 : Nat) ∧ ns.length ≤ (1000000 : Nat) ∧ (Lib.join (strL ns) [(58 : UInt8)]).length ≤ (1000000 : Nat))) then bif !vaB es bs ns then k (AV.tup [AV.agg [AV.slv (Sh.agg [Sh.str, Sh.str]) [], AV.slv (Sh.int IntKind.u8) []], AV.agg [AV.int IntKind.i64 (17 : Int), AV.int IntKind.i64 (-22 : Int)]]) else bif decide (es.length ≤ (900000 : Nat) ∧ bs.length ≤ (141000000000000 : Nat)) then bif small (AV.agg [AV.str ([77, 97, 105, 108, 45, 83, 105, 103, 110, 97, 116, 117, 114, 101] : List UInt8), AV.str (vaS key d ns es bs)] :: es).length && ((AV.agg [AV.str ([77, 97, 105, 108, 45, 83, 105, 103, 110, 97, 116, 117, 114, 101] : List UInt8), AV.str (vaS key d ns es bs)] :: es).all okF && decide (bs.length ≤ (141000000000000 : Nat))) then bif vdC (AV.agg [AV.str ([77, 97, 105, 108, 45, 83, 105, 103, 110, 97, 116, 117, 114, 101] : List UInt8), AV.str (vaS key d ns es bs)] :: es) bs != (0 : Int) then k (AV.tup [AV.agg [AV.slv (Sh.agg [Sh.str, Sh.str]) [], AV.slv (Sh.int IntKind.u8) []], AV.agg [AV.int IntKind.i64 (vdC (AV.agg [AV.str ([77, 97, 105, 108, 45, 83, 105, 103, 110, 97, 116, 117, 114, 101] : List UInt8), AV.str (vaS key d ns es bs)] :: es) bs), AV.int IntKind.i64 (-23 : Int)]]) else k (AV.tup [AV.agg [AV.slv (Sh.agg [Sh.str, Sh.str]) (AV.agg [AV.str [(77 : UInt8), (97 : UInt8), (105 : UInt8), (108 : UInt8), (45 : UInt8), (83 : UInt8), (105 : UInt8), (103 : UInt8), (110 : UInt8), (97 : UInt8), (116 : UInt8), (117 : UInt8), (114 : UInt8), (101 : UInt8)], AV.str (vaS key d ns es bs)] :: es), AV.slv (Sh.int IntKind.u8) bs], AV.agg [AV.int IntKind.i64 (0 : Int), AV.int IntKind.i64 (0 : Int)]]) else none else none else none else none else none else none) (by kernel_rfl) ?_
    rw [← hk]
    simp only [Bool.and_eq_true] at hc
    obtain ⟨⟨hs, hall⟩, ⟨hsn, hn⟩, hb, hd, hbl⟩ := hc
    have hM : (AV.agg [AV.str ([77, 97, 105, 108, 45, 83, 105, 103, 110, 97, 116, 117, 114, 101] : List UInt8), AV.str (vaS key d ns es bs)] :: es) = sgM key d ns es bs := rfl
    refine Eq.trans (cond_t (and_t hs (and_t hall hbl))) ?_
    unfold siF siB siC siI
    cases h1 : vdC es bs == 0
    · simp only [bne, h1, Bool.not_false, cond_true, cond_false]
      rfl
    simp only [bne, h1, Bool.not_true, cond_false]
    refine Eq.trans (cond_t hd) ?_
    cases h2 : nmS d
    · rfl
    refine Eq.trans (cond_f rfl) (Eq.trans (cond_t (and_t hsn hn)) ?_)
    cases h3 : namB ns
    · rfl
    have hd6 := (nm_len h2).1
    obtain ⟨hn2, hj⟩ := nam_len h3
    rw [← strL_sL hn] at hj
    refine Eq.trans (cond_f rfl) (Eq.trans (cond_t (and_t (and_t hs (and_t hall hn)) (and_t hb (decide_eq_true ⟨by omega, by omega, by omega⟩)))) ?_)
    cases h4 : vaB es bs ns
    · rfl
    have h60 := hv_len (vd_hv h1)
    have hbl' := of_decide_eq_true hbl
    have hvl := vaS_len (key := key) (es := es) (bs := bs) hd6 hj
    refine Eq.trans (cond_f rfl) (Eq.trans (cond_t (decide_eq_true ⟨by omega, hbl'⟩)) ?_)
    rw [hM]
    have hMl : small (sgM key d ns es bs).length = true := decide_eq_true (by show es.length + 1 ≤ _; omega)
    have hMa : (sgM key d ns es bs).all okF = true := by
      show ((small 14 && small (vaS key d ns es bs).length) && es.all okF) = true
      rw [hall, small_t (by omega : (vaS key d ns es bs).length ≤ _)]
      rfl
    refine Eq.trans (cond_t (and_t hMl (and_t hMa hbl))) ?_
    cases h5 : vdC (sgM key d ns es bs) bs == 0
    · simp only [Bool.not_false, Bool.not_true, h5, cond_true, cond_false]
      rfl
    · have h50 : vdC (sgM key d ns es bs) bs = 0 := by simpa using h5
      simp only [Bool.not_true, h50, cond_false]
      rfl
  · cases h
theorem split_mem {p : List UInt8} (hp : p ≠ []) : ∀ (n : Nat) (s : List UInt8), s.length ≤ n → ∀ x ∈ Lib.split s p, x.length ≤ s.length
  | n, s, hn, x, hx => by
    rcases Lib.index_spec s p with ⟨h1, _⟩ | ⟨j, h1, h2, h3, _⟩
    · rw [split_miss h1] at hx
      simp only [List.mem_singleton] at hx
      rw [hx]; exact Nat.le_refl _
    · have hp0 : 0 < p.length := List.length_pos_iff.2 hp
      have hr := Lib.index_room s p (by omega)
      match n with
      | 0 => omega
      | n + 1 =>
        rw [split_hit hp h1] at hx
        rcases List.mem_cons.1 hx with rfl | hx
        · rw [List.length_take]; omega
        · have := split_mem hp n _ (by rw [List.length_drop]; omega) x hx
          rw [List.length_drop] at this
          omega
def shB (m : Nat) (e : AV) : Bool := isS e && decide ((sE e).length ≤ m)
theorem goG_sh (p : Nat → List UInt8) (m : Nat) : ∀ (r : List AV) (i : Nat) (pre : List AV), pre.all (shB m) = true → r.all (shB m) = true → (goG p i pre r).2.2.all (shB m) = true ∧ (goG p i pre r).2.2.length = pre.length + r.length
  | [], i, pre, h1, h2 => ⟨h1, by show _ = _ + 0; rw [Nat.add_zero]; rfl⟩
  | e :: r, i, pre, h1, h2 => by
    rw [List.all_cons, Bool.and_eq_true] at h2
    unfold goG
    cases Lib.hasPrefix (sE e) (p i)
    · refine ⟨?_, by show (pre ++ e :: r).length = _; rw [List.length_append]⟩
      show (pre ++ e :: r).all (shB m) = true
      rw [List.all_append, List.all_cons, h1, h2.1, h2.2]; rfl
    · have ht : shB m (.str (Lib.trimPrefix (sE e) (p i))) = true := by
        have h3 := h2.1
        unfold shB at h3
        simp only [Bool.and_eq_true, decide_eq_true_eq] at h3
        have := Lib.trimPrefix_le (sE e) (p i)
        exact and_t rfl (decide_eq_true (Nat.le_trans this h3.2))
      obtain ⟨a, b⟩ := goG_sh p m r (i + 1) (pre ++ [.str (Lib.trimPrefix (sE e) (p i))]) (by rw [List.all_append, h1, List.all_cons, ht]; rfl) h2.2
      refine ⟨a, b.trans ?_⟩
      rw [List.length_append, List.length_singleton, List.length_cons]; omega
theorem vs_sh (p : Nat → List UInt8) (m : Nat) (v : List UInt8) : (vsL p m v).all (shB v.length) = true ∧ (vsB p m v = true → (vsL p m v).length = m) := by
  have hs : ((Lib.split v [59, 32]).map AV.str).all (shB v.length) = true := by
    refine List.all_eq_true.2 fun e he => ?_
    obtain ⟨x, hx, rfl⟩ := List.mem_map.1 he
    exact and_t rfl (decide_eq_true (split_mem (by decide) v.length v (Nat.le_refl _) x hx))
  obtain ⟨a, b⟩ := goG_sh p v.length ((Lib.split v [59, 32]).map AV.str) 0 [] rfl hs
  unfold vsL
  cases hB : vsB p m v
  · exact ⟨rfl, fun h => by cases h⟩
  · refine ⟨a, fun _ => ?_⟩
    unfold vsB at hB
    simp only [Bool.and_eq_true] at hB
    have he : ((Lib.split v [59, 32]).map AV.str).length = m := Int.ofNat.inj (by simpa using hB.1)
    show (goG p 0 [] ((Lib.split v [59, 32]).map AV.str)).2.2.length = m
    rw [b, he]
    exact Nat.zero_add _
theorem all_getD {P : AV → Bool} {l : List AV} {i : Nat} (h : l.all P = true) (hi : i < l.length) : P (l.getD i .unk) = true := List.all_eq_true.1 h (l.getD i .unk) (by rw [getD_eq hi]; exact List.getElem_mem hi)
def l4 : List UInt8 := [100, 104, 98, 115]
def vs4 (v : List UInt8) : List AV := vsL (pfx l4) l4.length v
def q4 (v : List UInt8) (i : Nat) : List UInt8 := sE ((vs4 v).getD i .unk)
theorem q4_len (v : List UInt8) (i : Nat) (h : vsB (pfx l4) l4.length v = true) (hi : i < 4) : i < (vs4 v).length ∧ (q4 v i).length ≤ v.length := by
  obtain ⟨a, b⟩ := vs_sh (pfx l4) l4.length v
  have hl : (vs4 v).length = 4 := b h
  have := all_getD a (i := i) (by rw [show (vsL (pfx l4) l4.length v).length = 4 from hl]; exact hi)
  unfold shB at this
  simp only [Bool.and_eq_true, decide_eq_true_eq] at this
  exact ⟨by omega, this.2⟩
def nsq (s : List UInt8) : List AV := (Lib.split s [58]).map AV.str
theorem nsq_ok {s : List UInt8} (h : s.length ≤ 1000000) : small (nsq s).length = true ∧ (nsq s).all okN = true ∧ (nsq s).length ≤ 1000001 := by
  have hle := split_le s [58] (by decide)
  have hm : (nsq s).length = (Lib.split s [58]).length := List.length_map _
  refine ⟨decide_eq_true (by omega), List.all_eq_true.2 fun e he => ?_, by omega⟩
  obtain ⟨x, hx, rfl⟩ := List.mem_map.1 he
  have := split_mem (p := [58]) (by decide) s.length s (Nat.le_refl _) x hx
  exact and_t rfl (decide_eq_true (by show x.length ≤ _; omega))
theorem nsq_join (s : List UInt8) : Lib.join (strL (nsq s)) [58] = s := by
  unfold nsq
  rw [strL_map]
  exact join_split (by decide) s.length s (Nat.le_refl _)
noncomputable def G57 : Env := { pure := [(68, ofT F68), (69, ofT F69), (70, ofT F70), (42, ofT F19), (44, ofT F44), (45, ofT F45), (84, ofT F84p)] }
theorem g57 : GOK Tryz.prog G57 := GOK.also (GOK.also (GOK.also (GOK.also (GOK.also (GOK.also (GOK.also g0 ok84p) ok45) ok44) ok42') ok70) ok69) ok68
def vkB (v : List UInt8) : Bool := vsB (pfx l4) l4.length v && (nmS (q4 v 0) && (namB (nsq (q4 v 1)) && (hexB (q4 v 2) && hexB (q4 v 3))))
def veD (v : List UInt8) : List UInt8 := bif vkB v then q4 v 0 else []
def veR (es bs kk : List AV) (v : List UInt8) : Int := bif !vkB v then 4 else bif !keyB kk (q4 v 0) then 3 else bif vaS (keyV kk (q4 v 0)) (q4 v 0) (nsq (q4 v 1)) es bs == v then 1 else 2
def F57 : List AV → Tr AV
  | [.agg [.slv (.agg [.str, .str]) es, .slv (.int .u8) bs], .str v, .slv (.agg [.str, .int .u64]) kk] => .gd ((small es.length && es.all okF) && (bs.all bE && (decide (v.length ≤ 100000) && small kk.length))) (.leaf (.agg [.str (veD v), .int .i64 (veR es bs kk v)]))
  | _ => .no
theorem ok57 : SumOK Tryz.prog 57 (ofT F57) ∧ SNat (ofT F57) := by
  refine fn0 g57 Tryz.func57 (by kernel_rfl) fun ρ avs k r h => ?_
  unfold F57 at h
  split at h
  · rename_i es bs v kk
    obtain ⟨hc, hk⟩ := gd_some h
    refine Eq.trans (b := bif decide (v.length ≤ (1000000 : Nat) ∧ ([100, 104, 98, 115] : List UInt8).length ≤ (100 : Nat)) then bif !vsB (pfx ([100, 104, 98, 115] : List UInt8)) ([100, 104, 98, 115] : List UInt8).length v then k (AV.agg [AV.str [], AV.int IntKind.i64 (4 : Int)]) else bif inb (0 : Int) (vs4 v).length then bif small (q4 v 0).length then bif !nmS (q4 v 0) then k (AV.agg [AV.str [], AV.int IntKind.i64 (4 : Int)]) else bif inb (1 : Int) (vs4 v).length then bif decide ((q4 v 1).length < (4294967281 : Nat)) && decide ((1 : Nat) ≤ ([58] : List UInt8).length) then bif small (List.map AV.str (Lib.split (q4 v 1) ([58] : List UInt8))).length && (List.map AV.str (Lib.split (q4 v 1) ([58] : List UInt8))).all okN then bif !namB (List.map AV.str (Lib.split (q4 v 1) ([58] : List UInt8))) then k (AV.agg [AV.str [], AV.int IntKind.i64 (4 : Int)]) else bif inb (2 : Int) (vs4 v).length then bif small (q4 v 2).length then bif !hexB (q4 v 2) then k (AV.agg [AV.str [], AV.int IntKind.i64 (4 : Int)]) else bif inb (3 : Int) (vs4 v).length then bif small (q4 v 3).length then bif !hexB (q4 v 3) then k (AV.agg [AV.str [], AV.int IntKind.i64 (4 : Int)]) else bif inb (0 : Int) (vs4 v).length then bif small kk.length then bif !keyB kk (q4 v 0) then bif inb (0 : Int) (vs4 v).length then k (AV.agg [AV.str (q4 v 0), AV.int IntKind.i64 (3 : Int)]) else none else bif inb (0 : Int) (vs4 v).length then bif inb (1 : Int) (vs4 v).length then bif decide ((q4 v 1).length < (4294967281 : Nat)) && decide ((1 : Nat) ≤ ([58] : List UInt8).length) then bif small es.length && (es.all okF && (List.map AV.str (Lib.split (q4 v 1) ([58] : List UInt8))).all okN) && (bs.all bE && decide ((q4 v 0).length ≤ (1000000 : Nat) ∧ (List.map AV.str (Lib.split (q4 v 1) ([58] : List UInt8))).length ≤ (1000000 : Nat) ∧ (Lib.join (strL (List.map AV.str (Lib.split (q4 v 1) ([58] : List UInt8)))) [(58 : UInt8)]).length ≤ (1000000 : Nat))) then bif !vaS (keyV kk (q4 v 0)) (q4 v 0) (List.map AV.str (Lib.split (q4 v 1) ([58] : List UInt8))) es bs == v then bif inb (0 : Int) (vs4 v).length then k (AV.agg [AV.str (q4 v 0), AV.int IntKind.i64 (2 : Int)]) else none else bif inb (0 : Int) (vs4 v).length then k (AV.agg [AV.str (q4 v 0), AV.int IntKind.i64 (1 : Int)]) else none else none else none else none else none else none else none else none else none else none else none else none else none else none else none else none else none) (by kernel_rfl) ?_
    rw [← hk]
    simp only [Bool.and_eq_true] at hc
    obtain ⟨⟨hs, hall⟩, hb, hv, hkk⟩ := hc
    have hv' := of_decide_eq_true hv
    unfold veD veR vkB
    refine Eq.trans (cond_t (decide_eq_true ⟨by omega, by decide⟩)) ?_
    have hl4 : (pfx ([100, 104, 98, 115] : List UInt8)) = pfx l4 := rfl
    have hl5 : ([100, 104, 98, 115] : List UInt8).length = l4.length := rfl
    rw [hl4, hl5]
    cases h1 : vsB (pfx l4) l4.length v
    · rfl
    obtain ⟨i0, n0⟩ := q4_len v 0 h1 (by decide)
    obtain ⟨i1, n1⟩ := q4_len v 1 h1 (by decide)
    obtain ⟨i2, n2⟩ := q4_len v 2 h1 (by decide)
    obtain ⟨i3, n3⟩ := q4_len v 3 h1 (by decide)
    have j0 : inb 0 (vs4 v).length = true := inb_true (by omega) (by omega)
    have j1 : inb 1 (vs4 v).length = true := inb_true (by omega) (by omega)
    have j2 : inb 2 (vs4 v).length = true := inb_true (by omega) (by omega)
    have j3 : inb 3 (vs4 v).length = true := inb_true (by omega) (by omega)
    have hq : (List.map AV.str (Lib.split (q4 v 1) [58])) = nsq (q4 v 1) := rfl
    obtain ⟨m1, m2, m3⟩ := nsq_ok (s := q4 v 1) (by omega)
    rw [hq]
    refine Eq.trans (cond_f rfl) (Eq.trans (cond_t j0) (Eq.trans (cond_t (small_t (by omega))) ?_))
    cases h2 : nmS (q4 v 0)
    · rfl
    refine Eq.trans (cond_f rfl) (Eq.trans (cond_t j1) (Eq.trans (cond_t (and_t (decide_eq_true (by omega)) rfl)) (Eq.trans (cond_t (and_t m1 m2)) ?_)))
    cases h3 : namB (nsq (q4 v 1))
    · rfl
    refine Eq.trans (cond_f rfl) (Eq.trans (cond_t j2) (Eq.trans (cond_t (small_t (by omega))) ?_))
    cases h4 : hexB (q4 v 2)
    · rfl
    refine Eq.trans (cond_f rfl) (Eq.trans (cond_t j3) (Eq.trans (cond_t (small_t (by omega))) ?_))
    cases h5 : hexB (q4 v 3)
    · rfl
    refine Eq.trans (cond_f rfl) (Eq.trans (cond_t j0) (Eq.trans (cond_t hkk) ?_))
    cases h6 : keyB kk (q4 v 0)
    · refine Eq.trans (cond_t rfl) (Eq.trans (cond_t j0) rfl)
    refine Eq.trans (cond_f rfl) (Eq.trans (cond_t j0) (Eq.trans (cond_t j1) (Eq.trans (cond_t (and_t (decide_eq_true (by omega)) rfl)) (Eq.trans (cond_t (and_t (and_t hs (and_t hall m2)) (and_t hb (decide_eq_true ⟨by omega, by have := (nam_len h3).1; omega, by rw [nsq_join]; omega⟩)))) ?_))))
    cases vaS (keyV kk (q4 v 0)) (q4 v 0) (nsq (q4 v 1)) es bs == v
    · exact Eq.trans (cond_t rfl) (Eq.trans (cond_t j0) rfl)
    · exact Eq.trans (cond_f rfl) (Eq.trans (cond_t j0) rfl)
  · cases h
noncomputable def G29 : Env := { pure := [(58, ofT F58), (59, ofT F59), (19, ofT F19), (21, ofT F44)], opens := [(60, ofX F60)] }
theorem g29 : GOK Tryz.prog G29 := GOK.alsoX (GOK.also (GOK.also (GOK.also (GOK.also g0 ok21) ok19) ok59) ok58) ok60
def k4 : List AV := [.str [100, 61], .str [104, 61], .str [98, 61], .str [115, 61]]
def vk4 (v : List UInt8) : List AV := vsL (kfx k4) k4.length v
def r4 (v : List UInt8) (i : Nat) : List UInt8 := sE ((vk4 v).getD i .unk)
def F29 : List AV → Tr AV
  | [.str v] => .gd (decide (v.length ≤ 100000)) (.leaf (.tup [.str (bif vsB (pfx l4) l4.length v then q4 v 0 else []), .slv .str (bif vsB (pfx l4) l4.length v then nsq (q4 v 1) else []), .bool (vkB v)]))
  | _ => .no
theorem ok29 : SumOK Tryz.prog 29 (ofT F29) ∧ SNat (ofT F29) := by
  refine fn0 g29 Tryz.func29 (by kernel_rfl) fun ρ avs k r h => ?_
  unfold F29 at h
  split at h
  · rename_i v
    obtain ⟨hc, hk⟩ := gd_some h
    refine Eq.trans (b := bif decide (v.length ≤ (1000000 : Nat)) && (([AV.str [(100 : UInt8), (61 : UInt8)], AV.str [(104 : UInt8), (61 : UInt8)], AV.str [(98 : UInt8), (61 : UInt8)], AV.str [(115 : UInt8), (61 : UInt8)]].all fun k => decide ((sE k).length = (2 : Nat))) && decide ([AV.str [(100 : UInt8), (61 : UInt8)], AV.str [(104 : UInt8), (61 : UInt8)], AV.str [(98 : UInt8), (61 : UInt8)], AV.str [(115 : UInt8), (61 : UInt8)]].length ≤ (100 : Nat))) then bif !vsB (kfx [AV.str [(100 : UInt8), (61 : UInt8)], AV.str [(104 : UInt8), (61 : UInt8)], AV.str [(98 : UInt8), (61 : UInt8)], AV.str [(115 : UInt8), (61 : UInt8)]]) [AV.str [(100 : UInt8), (61 : UInt8)], AV.str [(104 : UInt8), (61 : UInt8)], AV.str [(98 : UInt8), (61 : UInt8)], AV.str [(115 : UInt8), (61 : UInt8)]].length v then k (AV.tup [AV.str [], AV.slv Sh.str [], AV.bool false]) else bif inb (2 : Int) (vk4 v).length then bif small (r4 v 2).length then bif inb (3 : Int) (vk4 v).length then bif small (r4 v 3).length then bif inb (1 : Int) (vk4 v).length then bif decide ((r4 v 1).length ≤ (1000000 : Nat)) && decide ((1 : Nat) ≤ ([58] : List UInt8).length ∧ ([58] : List UInt8).length ≤ (1000000 : Nat)) then bif inb (0 : Int) (vk4 v).length then bif hexB (r4 v 2) then bif hexB (r4 v 3) then bif inb (0 : Int) (vk4 v).length then bif small (r4 v 0).length then bif nmS (r4 v 0) then bif small (List.map AV.str (Lib.split (r4 v 1) ([58] : List UInt8))).length && (List.map AV.str (Lib.split (r4 v 1) ([58] : List UInt8))).all okN then k (AV.tup [AV.str (r4 v 0), AV.slv Sh.str (List.map AV.str (Lib.split (r4 v 1) ([58] : List UInt8))), AV.bool (namB (List.map AV.str (Lib.split (r4 v 1) ([58] : List UInt8))))]) else none else k (AV.tup [AV.str (r4 v 0), AV.slv Sh.str (List.map AV.str (Lib.split (r4 v 1) ([58] : List UInt8))), AV.bool false]) else none else none else k (AV.tup [AV.str (r4 v 0), AV.slv Sh.str (List.map AV.str (Lib.split (r4 v 1) ([58] : List UInt8))), AV.bool false]) else k (AV.tup [AV.str (r4 v 0), AV.slv Sh.str (List.map AV.str (Lib.split (r4 v 1) ([58] : List UInt8))), AV.bool false]) else none else none else none else none else none else none else none else none) (by kernel_rfl) ?_
    rw [← hk]
    have hv' := of_decide_eq_true hc
    unfold vkB
    refine Eq.trans (cond_t (and_t (decide_eq_true (by omega)) rfl)) ?_
    have hcg := vs_congr (p := kfx k4) (q := pfx l4) (m := l4.length) (by decide) v
    have hB : vsB (kfx [AV.str [100, 61], AV.str [104, 61], AV.str [98, 61], AV.str [115, 61]]) [AV.str [100, 61], AV.str [104, 61], AV.str [98, 61], AV.str [115, 61]].length v = vsB (pfx l4) l4.length v := hcg.1
    have hL : vk4 v = vs4 v := hcg.2
    have hr : ∀ i, r4 v i = q4 v i := fun i => by unfold r4 q4; rw [hL]
    simp only [hB, hL, hr]
    cases h1 : vsB (pfx l4) l4.length v
    · rfl
    obtain ⟨i0, n0⟩ := q4_len v 0 h1 (by decide)
    obtain ⟨i1, n1⟩ := q4_len v 1 h1 (by decide)
    obtain ⟨i2, n2⟩ := q4_len v 2 h1 (by decide)
    obtain ⟨i3, n3⟩ := q4_len v 3 h1 (by decide)
    have j0 : inb 0 (vs4 v).length = true := inb_true (by omega) (by omega)
    have j1 : inb 1 (vs4 v).length = true := inb_true (by omega) (by omega)
    have j2 : inb 2 (vs4 v).length = true := inb_true (by omega) (by omega)
    have j3 : inb 3 (vs4 v).length = true := inb_true (by omega) (by omega)
    have hq : (List.map AV.str (Lib.split (q4 v 1) [58])) = nsq (q4 v 1) := rfl
    obtain ⟨m1, m2, m3⟩ := nsq_ok (s := q4 v 1) (by omega)
    rw [hq]
    refine Eq.trans (cond_f rfl) (Eq.trans (cond_t j2) (Eq.trans (cond_t (small_t (by omega))) (Eq.trans (cond_t j3) (Eq.trans (cond_t (small_t (by omega))) (Eq.trans (cond_t j1) (Eq.trans (cond_t (and_t (decide_eq_true (by omega)) rfl)) (Eq.trans (cond_t j0) ?_)))))))
    cases h4 : hexB (q4 v 2)
    · cases nmS (q4 v 0) <;> cases namB (nsq (q4 v 1)) <;> rfl
    refine Eq.trans (cond_t rfl) ?_
    cases h5 : hexB (q4 v 3)
    · cases nmS (q4 v 0) <;> cases namB (nsq (q4 v 1)) <;> rfl
    refine Eq.trans (cond_t rfl) (Eq.trans (cond_t j0) (Eq.trans (cond_t (small_t (by omega))) ?_))
    cases h2 : nmS (q4 v 0)
    · rfl
    refine Eq.trans (cond_t rfl) (Eq.trans (cond_t (and_t m1 m2)) ?_)
    cases namB (nsq (q4 v 1)) <;> rfl
  · cases h
end Go.Proofs.YthdhfmdhjanoaaaGreatDoor


namespace Go.Proofs.YthdhfmdhjanoaaaGreatDoor
open Go.Ev
theorem by54 : Tryz.prog.bytesOf 54 ≤ 1000 := of_decide_eq_true (by kernel_rfl)
noncomputable def G26 : Env := { pure := [(18, ofT F18), (53, ofT F53), (56, ofT F56), (57, ofT F57), (41, evF Tryz.prog G0 [] Tryz.f41), (47, evF Tryz.prog G0 [] Tryz.f47)] }
theorem g26 : GOK Tryz.prog G26 := GOK.also (GOK.also (GOK.also (GOK.also (GOK.also (GOK.also g0 (inl g0 Tryz.func47 (by kernel_rfl))) (inl g0 Tryz.func41 (by kernel_rfl))) ok57) ok56) ok53) ok18
noncomputable def b26 : Code := ((Tryz.f26.body.map loopsOf).getD []).headD .skip
def veE (es bs kk : List AV) (e : AV) : AV := .agg [.str (veD (fV e)), .int .i64 (veR es bs kk (fV e))]
def veL (es bs kk l : List AV) : List AV := (l.filter fun e => eqF (fN e) sgF).map (veE es bs kk)
theorem veL_cons (es bs kk : List AV) (e : AV) (l : List AV) : veL es bs kk (e :: l) = bif eqF (fN e) sgF then veE es bs kk e :: veL es bs kk l else veL es bs kk l := by
  unfold veL
  rw [List.filter_cons]
  cases eqF (fN e) sgF <;> rfl
def L26 : List AV → List (Option Row) → Tr LOut
  | [.slv (.agg [.str, .int .u64]) kk, .ptr 0 0, .ptr 2 0, .own 900, .slv (.agg [.str, .str]) es, .int .i64 m, .int .i64 i], [some (.box false [.slv (.agg [.str, .str]) es', .slv (.int .u8) bs]), some (.box false [.int .i64 0, .int .i64 0]), some (.arr false (.agg [.str, .int .i64]) e out none)] =>
    .gd ((cnt m i es.length && (es.all okF && es.all okV)) && (((small es'.length && es'.all okF) && (bs.all bE && small kk.length)) && decide (out.length + (es.length - i.toNat) ≤ 1000000 ∧ e = 54))) (.leaf (.exit 0, [.slv (.agg [.str, .int .u64]) kk, .ptr 0 0, .ptr 2 0, .own 900, .slv (.agg [.str, .str]) es, .int .i64 m, .int .i64 es.length], [some (.box false [.slv (.agg [.str, .str]) es', .slv (.int .u8) bs]), some (.box false [.int .i64 0, .int .i64 0]), some (.arr false (.agg [.str, .int .i64]) e (out ++ veL es' bs kk (es.drop i.toNat)) none)]))
  | _, _ => .no
def l26 : Ev.Loop := ⟨{ len := 42, slots := [1, 2, 5, 8, 22, 23, 24], rows := [0, 2, 900], homes := [(8, 900, 54)] }, ofL L26⟩
def μ26 (vs : List AV) (_ : List (Option Row)) : Nat := match vs with
  | [_, _, _, _, _, .int _ n, .int _ i] => (n - i).toNat
  | _ => 0
theorem loop26 : LoopOK Tryz.prog G26 [(9, l26)] b26 l26 := by
  refine loopT g26.natOK rfl (KOK.nil (by kernel_rfl)) μ26 (fun ρ vs rs k r h => ?_)
  unfold L26 at h
  split at h
  · rename_i kk es m i es' bs e out
    obtain ⟨hc, hk⟩ := gd_some h
    simp only [Bool.and_eq_true] at hc
    obtain ⟨⟨hc, hall, hv⟩, ⟨⟨hs', hall'⟩, hb, hkk⟩, hbd⟩ := hc
    obtain ⟨hbd, rfl⟩ := of_decide_eq_true hbd
    refine Eq.trans (b := bif decide (i < m) then bif inb i es.length then bif small (fN (es.getD i.toNat AV.unk)).length && small ([77, 97, 105, 108, 45, 83, 105, 103, 110, 97, 116, 117, 114, 101] : List UInt8).length then bif eqF (fN (es.getD i.toNat AV.unk)) ([77, 97, 105, 108, 45, 83, 105, 103, 110, 97, 116, 117, 114, 101] : List UInt8) then bif small es'.length && es'.all okF && (bs.all bE && (decide ((fV (es.getD i.toNat AV.unk)).length ≤ (100000 : Nat)) && small kk.length)) then bif roomB (out.length + [AV.agg [AV.str (veD (fV (es.getD i.toNat AV.unk))), AV.int IntKind.i64 (veR es' bs kk (fV (es.getD i.toNat AV.unk)))]].length) (Tryz.prog.bytesOf (54 : Nat)) then bif decide ((m - IntKind.i64.wrap (i + (1 : Int))).toNat < (m - i).toNat) then bif cnt m (IntKind.i64.wrap (i + (1 : Int))) es.length && (es.all okF && es.all okV) && (small es'.length && es'.all okF && (bs.all bE && small kk.length) && decide ((out ++ [AV.agg [AV.str (veD (fV (es.getD i.toNat AV.unk))), AV.int IntKind.i64 (veR es' bs kk (fV (es.getD i.toNat AV.unk)))]]).length + (es.length - (IntKind.i64.wrap (i + (1 : Int))).toNat) ≤ (1000000 : Nat) ∧ (54 : Nat) = (54 : TypeId))) then k (Ex.exit (0 : Nat)) [AV.slv (Sh.agg [Sh.str, Sh.int IntKind.u64]) kk, AV.ptr (0 : Nat) (0 : Nat), AV.ptr (2 : Nat) (0 : Nat), AV.own (900 : Nat), AV.slv (Sh.agg [Sh.str, Sh.str]) es, AV.int IntKind.i64 m, AV.int IntKind.i64 (↑es.length : Int)] [some (Row.box false [AV.slv (Sh.agg [Sh.str, Sh.str]) es', AV.slv (Sh.int IntKind.u8) bs]), some (Row.box false [AV.int IntKind.i64 (0 : Int), AV.int IntKind.i64 (0 : Int)]), some (Row.arr false (Sh.agg [Sh.str, Sh.int IntKind.i64]) (54 : Nat) (out ++ [AV.agg [AV.str (veD (fV (es.getD i.toNat AV.unk))), AV.int IntKind.i64 (veR es' bs kk (fV (es.getD i.toNat AV.unk)))]] ++ veL es' bs kk (List.drop (IntKind.i64.wrap (i + (1 : Int))).toNat es)) none)] else none else none else none else none else bif decide ((m - IntKind.i64.wrap (i + (1 : Int))).toNat < (m - i).toNat) then bif cnt m (IntKind.i64.wrap (i + (1 : Int))) es.length && (es.all okF && es.all okV) && (small es'.length && es'.all okF && (bs.all bE && small kk.length) && decide (out.length + (es.length - (IntKind.i64.wrap (i + (1 : Int))).toNat) ≤ (1000000 : Nat) ∧ (54 : TypeId) = (54 : TypeId))) then k (Ex.exit (0 : Nat)) [AV.slv (Sh.agg [Sh.str, Sh.int IntKind.u64]) kk, AV.ptr (0 : Nat) (0 : Nat), AV.ptr (2 : Nat) (0 : Nat), AV.own (900 : Nat), AV.slv (Sh.agg [Sh.str, Sh.str]) es, AV.int IntKind.i64 m, AV.int IntKind.i64 (↑es.length : Int)] [some (Row.box false [AV.slv (Sh.agg [Sh.str, Sh.str]) es', AV.slv (Sh.int IntKind.u8) bs]), some (Row.box false [AV.int IntKind.i64 (0 : Int), AV.int IntKind.i64 (0 : Int)]), some (Row.arr false (Sh.agg [Sh.str, Sh.int IntKind.i64]) (54 : Nat) (out ++ veL es' bs kk (List.drop (IntKind.i64.wrap (i + (1 : Int))).toNat es)) none)] else none else none else none else none else k (Ex.exit (0 : Nat)) [AV.slv (Sh.agg [Sh.str, Sh.int IntKind.u64]) kk, AV.ptr (0 : Nat) (0 : Nat), AV.ptr (2 : Nat) (0 : Nat), AV.own (900 : Nat), AV.slv (Sh.agg [Sh.str, Sh.str]) es, AV.int IntKind.i64 m, AV.int IntKind.i64 i] [some (Row.box false [AV.slv (Sh.agg [Sh.str, Sh.str]) es', AV.slv (Sh.int IntKind.u8) bs]), some (Row.box false [AV.int IntKind.i64 (0 : Int), AV.int IntKind.i64 (0 : Int)]), some (Row.arr false (Sh.agg [Sh.str, Sh.int IntKind.i64]) (54 : Nat) out none)]) (by kernel_rfl) ?_
    rw [← hk]
    obtain ⟨rfl, hs, j, rfl, hj⟩ := cnt_spec hc
    rw [Int.toNat_natCast] at hbd
    simp only [Int.toNat_natCast]
    by_cases hlt : j < es.length
    · obtain ⟨e1, e2, e3, e4, e5⟩ := cnt_facts hlt hs
      have hok : (small (fN (es.getD j .unk)).length && small (fV (es.getD j .unk)).length) = true := all_getD (P := okF) hall hlt
      simp only [Bool.and_eq_true] at hok
      have hov : okV (es.getD j .unk) = true := all_getD hv hlt
      obtain ⟨v1, v2⟩ : (fN (es.getD j .unk)).length ≤ 60 ∧ (fV (es.getD j .unk)).length ≤ 4000 := of_decide_eq_true hov
      have r9 : ∀ x : AV, roomB (out.length + [x].length) (Tryz.prog.bytesOf 54) = true := fun x => roomB_small (by show _ + 1 ≤ _; omega) by54
      have g1 : ∀ x : AV, decide ((out ++ [x]).length + (es.length - (j + 1)) ≤ 1000000 ∧ True) = true := fun x => decide_eq_true ⟨by rw [List.length_append, List.length_singleton]; omega, trivial⟩
      have g0' : decide (out.length + (es.length - (j + 1)) ≤ 1000000 ∧ True) = true := decide_eq_true ⟨by omega, trivial⟩
      have hv1 : decide ((fV (es.getD j .unk)).length ≤ 100000) = true := decide_eq_true (by omega)
      have hsg : ([77, 97, 105, 108, 45, 83, 105, 103, 110, 97, 116, 117, 114, 101] : List UInt8) = sgF := rfl
      have hsm : small sgF.length = true := rfl
      rw [drop_getD hlt, veL_cons]
      simp only [hsg, hsm, e1, e2, e3, e4, e5, hok.1, hall, hv, hs', hall', hb, hkk, hv1, r9, g1, g0', cond_true, Bool.and_true, Int.toNat_natCast]
      cases eqF (fN (es.getD j .unk)) sgF
      · rfl
      · simp only [cond_true, List.append_assoc]
        rfl
    · obtain rfl : j = es.length := by omega
      rw [decide_eq_false (by omega), List.drop_length]
      show k _ _ [_, _, some (.arr false (.agg [.str, .int .i64]) 54 out none)] = k _ _ [_, _, some (.arr false (.agg [.str, .int .i64]) 54 (out ++ []) none)]
      rw [List.append_nil]
  · cases h
def vfC (es bs kk : List AV) : Int := bif !(vdC es bs == 0) then vdC es bs else kyC kk
def vfI (es bs kk : List AV) : Int := bif !(vdC es bs == 0) then vdI es bs else kyI kk
def vfL (es bs kk : List AV) : List AV := bif vfC es bs kk == 0 then veL es bs kk es else []
def F26 : List AV → Tr AV
  | [.agg [.slv (.agg [.str, .str]) es, .slv (.int .u8) bs], .slv (.agg [.str, .int .u64]) kk] => .gd ((small es.length && es.all okF) && ((bs.all bE && decide (bs.length ≤ 141000000000000)) && (small kk.length && kk.all okK))) (.leaf (.tup [.slv (.agg [.str, .int .i64]) (vfL es bs kk), .agg [.int .i64 (vfC es bs kk), .int .i64 (vfI es bs kk)]]))
  | _ => .no
theorem kyI_zero {kk : List AV} (h : (kyC kk == 0) = true) : kyI kk = 0 := by
  unfold kyC at h
  unfold kyI
  cases h1 : decide ((kk.length : Int) > 60)
  · rw [h1] at h
    cases h2 : (findN (kbE kk) kk.length 0).isSome
    · rfl
    · rw [h2] at h; cases h
  · rw [h1] at h; cases h
theorem ok26 : SumOK Tryz.prog 26 (ofT F26) ∧ SNat (ofT F26) := by
  refine fn1 (K := [(9, l26)]) (b := b26) (l := l26) g26 Tryz.func26 (by kernel_rfl) (by kernel_rfl) loop26 fun ρ avs k r h => ?_
  unfold F26 at h
  split at h
  · rename_i es bs kk
    obtain ⟨hc, hk⟩ := gd_some h
    simp only [Bool.and_eq_true] at hc
    obtain ⟨⟨hs, hall⟩, ⟨hb, hbl⟩, hkk, hka⟩ := hc
    refine Eq.trans (b := bif small es.length && (es.all okF && decide (bs.length ≤ (141000000000000 : Nat))) then bif vdC es bs != (0 : Int) then k (AV.tup [AV.slv (Sh.agg [Sh.str, Sh.int IntKind.i64]) [], AV.agg [AV.int IntKind.i64 (vdC es bs), AV.int IntKind.i64 (vdI es bs)]]) else bif small kk.length && kk.all okK then bif kyC kk != (0 : Int) then k (AV.tup [AV.slv (Sh.agg [Sh.str, Sh.int IntKind.i64]) [], AV.agg [AV.int IntKind.i64 (kyC kk), AV.int IntKind.i64 (kyI kk)]]) else bif cnt (↑es.length : Int) (0 : Int) es.length && (es.all okF && es.all okV) && (small es.length && es.all okF && (bs.all bE && small kk.length) && decide (([] : List AV).length + (es.length - Int.toNat (0 : Int)) ≤ (1000000 : Nat) ∧ ((8 : Nat), (900 : Nat), (54 : TypeId)).snd.snd = (54 : TypeId))) then k (AV.tup [AV.slv (Sh.agg [Sh.str, Sh.int IntKind.i64]) ([] ++ veL es bs kk (List.drop (0 : Nat) es)), AV.agg [AV.int IntKind.i64 (0 : Int), AV.int IntKind.i64 (0 : Int)]]) else none else none else none) (by kernel_rfl) ?_
    rw [← hk]
    refine Eq.trans (cond_t (and_t hs (and_t hall hbl))) ?_
    unfold vfL vfI
    unfold vfC
    cases h1 : vdC es bs == 0
    · simp only [bne, h1, Bool.not_false, cond_true, cond_false]
      rfl
    simp only [bne, h1, Bool.not_true, cond_false]
    refine Eq.trans (cond_t (and_t hkk hka)) ?_
    cases h2 : kyC kk == 0
    · rfl
    have h60 := hv_len (vd_hv h1)
    have hv := hv_ok (vd_hv h1)
    have hk0 : kyC kk = 0 := by simpa using h2
    refine Eq.trans (cond_f rfl) (Eq.trans (cond_t (and_t (and_t (cnt_zero hs) (and_t hall hv)) (and_t (and_t (and_t hs hall) (and_t hb hkk)) (decide_eq_true ⟨by show 0 + (es.length - 0) ≤ _; omega, by first | trivial | rfl⟩)))) ?_)
    rw [kyI_zero h2, hk0, List.drop_zero, List.nil_append]
    rfl
  · cases h
noncomputable def G16 : Env := { pure := [(14, ofT F14), (17, ofT F17), (26, ofT F26), (40, evF Tryz.prog GC [] Tryz.f40)], fork := true }
theorem g16 : GOK Tryz.prog G16 := GOK.flags (GOK.also (GOK.also (GOK.also (GOK.also g0 (inl gc Tryz.func40 (by kernel_rfl))) ok26) ok17) ok14)
def F16 : List AV → Tr AV
  | [] => .leaf (.bool true)
  | _ => .no
theorem ok16 : SumOK Tryz.prog 16 (ofT F16) ∧ SNat (ofT F16) := by
  refine fn0 g16 Tryz.func16 (by kernel_rfl) fun ρ avs k r h => ?_
  unfold F16 at h
  split at h
  · refine Eq.trans (b := k (.bool true)) (by kernel_rfl) h
  · cases h
end Go.Proofs.YthdhfmdhjanoaaaGreatDoor

/-
  What a law is called with, taken apart by its shape; the frame of a law's statement.
-/
namespace Go.Ev
theorem has_int {k : IntKind} {v : AV} (h : has1 (.int k) v = true) : ∃ n, v = .int k n := by
  cases v <;> simp [has1] at h
  rename_i k' n
  exact ⟨n, by rw [h]⟩
theorem has_bool {v : AV} (h : has1 .bool v = true) : ∃ b, v = .bool b := by
  cases v <;> simp [has1] at h
  exact ⟨_, rfl⟩
theorem has_str {v : AV} (h : has1 .str v = true) : ∃ s, v = .str s := by
  cases v <;> simp [has1] at h
  exact ⟨_, rfl⟩
theorem has_slice {s : Sh} {v : AV} (h : has1 (.slice s) v = true) (hf : Fit v) : ∃ es, v = .slv s es ∧ small es.length = true ∧ (∀ e ∈ es, hasSh s e = true) ∧ ∀ e ∈ es, Fit e := by
  cases hf with
  | slv s' es hm hs hfe =>
    simp only [has1] at h
    have e := Sh.beq_eq _ _ h
    subst e
    exact ⟨es, rfl, decide_eq_true (Nat.le_trans hm (by decide)), hs, hfe⟩
  | _ => simp [has1] at h
theorem hass_cons {s : Sh} {l : List Sh} {cs : List AV} (h : hass (s :: l) cs = true) : ∃ c cs', cs = c :: cs' ∧ has1 s c = true ∧ hass l cs' = true := by
  cases cs with
  | nil => simp [hass] at h
  | cons c cs' => simp only [hass, Bool.and_eq_true] at h; exact ⟨c, cs', rfl, h.1, h.2⟩
theorem hass_nil {cs : List AV} (h : hass [] cs = true) : cs = [] := by
  cases cs with
  | nil => rfl
  | cons c cs' => simp [hass] at h
theorem has_agg {l : List Sh} {v : AV} (h : hasSh (.agg l) v = true) : ∃ cs, v = .agg cs ∧ hass l cs = true := by
  cases v <;> simp [hasSh] at h
  exact ⟨_, rfl, h⟩
theorem Fit.agg_inv {cs : List AV} (h : Fit (.agg cs)) : ∀ c ∈ cs, Fit c := by
  cases h with
  | agg _ h => exact h
theorem Fit.str_inv {s : List UInt8} (h : Fit (.str s)) : s.length ≤ 140737488351232 := by
  cases h with
  | str _ h => exact h
theorem has_sliceR {s : Sh} {v : AV} (h : has1 (.slice s) v = true) (hf : Fit v) : ∃ es, v = .slv s es ∧ es.length ≤ 140737488351232 ∧ (∀ e ∈ es, hasSh s e = true) ∧ ∀ e ∈ es, Fit e := by
  cases hf with
  | slv s' es hm hs hfe =>
    simp only [has1] at h
    have e := Sh.beq_eq _ _ h
    subst e
    exact ⟨es, rfl, hm, hs, hfe⟩
  | _ => simp [has1] at h
theorem Fit.int_inv {k : IntKind} {n : Int} (h : Fit (.int k n)) : (Lit.int k n).wf = true := by
  cases h with
  | int _ _ h => exact h
theorem hasAll_cons {s : Sh} {l : List Sh} {cs : List AV} (h : hasAll (s :: l) cs = true) : ∃ c cs', cs = c :: cs' ∧ hasSh s c = true ∧ hasAll l cs' = true := by
  cases cs with
  | nil => simp [hasAll] at h
  | cons c cs' => simp only [hasAll, Bool.and_eq_true] at h; exact ⟨c, cs', rfl, h.1, h.2⟩
theorem hasAll_nil {cs : List AV} (h : hasAll [] cs = true) : cs = [] := by
  cases cs with
  | nil => rfl
  | cons c cs' => simp [hasAll] at h
end Go.Ev
namespace Go.Proofs.YthdhfmdhjanoaaaGreatDoor
open Go.Ev

def bk (H : Type) : BK H := ⟨Rows.uptoBulk, Rows.uptoBulkAll, fun _ => rfl, fun l => by cases l <;> simp [Rows.uptoBulk], Nat.le_refl _, fun _ => rfl, fun _ _ => rfl, rfl, fun _ _ => rfl⟩
theorem own : ownKnob Tryz.prog.godebug = none := by kernel_rfl

end Go.Proofs.YthdhfmdhjanoaaaGreatDoor


namespace Go.Proofs.YthdhfmdhjanoaaaGreatDoor
open Go.Ev
theorem hand_shaped {H : Type} {enc : TypeId × Value → H} {a : Assume} {C : Checked} {os : Os} {f : FuncId} {fn : Func} {s : ChangeSpec} {conds : List PathCond} {apart fresh handsOn again : Bool} {X : World → Array Value → Prop}
    (_hX : ∀ (w w' : World) (args : Array Value), w.heap = w'.heap → X w args → X w' args)
    (own : ownKnob C.prog.godebug = none) (started : os.Started) (noInit : C.prog.inits.idxOf? f = none) (hfn : C.prog.funcs[f]? = some fn)
    (witness : ∃ (w : World) (tape : Tape) (i : Input), w.os = os ∧ (w.forCall tape i).Shaped C.prog ∧ i.vars = [] ∧ Input.okWide C.prog (w.forCall tape i) .any w.heap.size f i ∧
      ((s.pre enc C.prog fn conds apart (w.forCall tape i).memory i.args ∧ X (w.forCall tape i).memory i.args) ∧ sizedMet enc C.prog fn (OpenSpec.ofChange s) apart (w.forCall tape i).memory i.args) ∧ a.holds C.prog (lone (Frame.enter C.prog f i.args .normal) [] (w.forCall tape i)))
    (contract : ∀ (W : World) (base : Nat) (args : Array Value) (ds gs : List (DataW H)) (before : List MemPlace),
      (∀ (j : Nat) t v, fn.params[j]? = some t → args[j]? = some v → Value.okWide C.prog W .any base t v) →
      DataW.Whole enc C.prog fn.params.toList s.vars apart W args.toList ds gs before →
      (DataW.weightsEach C.prog (fn.params.toList ++ s.plain.varTypes C.prog) (ds ++ gs)).all (· ≤ reachBytes) = true → W.ShapedOpen C.prog →
      Calls C.prog f args W fun e W' => ∃ v, e = .returned v ∧ s.post enc C.prog fn apart fresh handsOn again W args v W') :
    ReturnsInHanded a C os f .any (fun w args => (s.pre enc C.prog fn conds apart w args ∧ X w args) ∧ sizedMet enc C.prog fn (OpenSpec.ofChange s) apart w args) (s.post enc C.prog fn apart fresh handsOn again) := by
  refine returnsInHanded_of_calls own started noInit witness ?_
  intro w tape i _ hsh _ hok hpre _
  obtain ⟨_, _, _, fn', hfn', _, _, _, _, hval⟩ := hok
  obtain rfl : fn' = fn := Option.some.inj (hfn'.symm.trans hfn)
  obtain ⟨⟨⟨ds, gs, before, hw, _⟩, _⟩, hz⟩ := hpre
  refine (contract (w.forCall tape i) w.heap.size i.args ds gs before hval (DataW.Whole.of_heap (w' := w.forCall tape i) (by rfl) hw) (hz.weights hw) hsh).mono fun e W' ⟨v, he, hp⟩ => ?_
  subst he
  exact ChangeSpec.post_blind hp
theorem kept_cell {w w' : World} {v : Value} (h : w.cell? ⟨0, 0, none⟩ = some v) (hk : Kept (fun b => b < w.heap.size) w w') : w'.cell? ⟨0, 0, none⟩ = some v := by
  have h0 : 0 < w.heap.size := cell_block h
  have := hk.block 0 h0
  unfold World.cell? at h ⊢
  rw [this]
  exact h
theorem glb_of {w : World} (h : w.ShapedOpen Tryz.prog) : Glb (fun b => b < w.heap.size) w := by
  obtain ⟨m, hm⟩ := cell_of_shapedOpen_int (P := Tryz.prog) (w := w) (g := 0) (t := 3) (zero := #[.int .i64 0]) (k := .i64) h (of_decide_eq_true (by kernel_rfl)) (by kernel_rfl) rfl (by kernel_rfl) (by kernel_rfl) Tryz.underlying3
  exact fun w' hk => ⟨m, kept_cell hm hk⟩
end Go.Proofs.YthdhfmdhjanoaaaGreatDoor


namespace Go.Proofs.YthdhfmdhjanoaaaGreatDoor
open Go.Ev
theorem open_field {v : AV} (h : hasSh (.agg [.str, .str]) v = true) (hf : Fit v) : okF v = true ∧ ∃ n x, v = .agg [.str n, .str x] := by
  obtain ⟨cs, rfl, hh⟩ := has_agg h
  obtain ⟨c0, cs, rfl, h0, hh⟩ := hass_cons hh
  obtain ⟨c1, cs, rfl, h1, hh⟩ := hass_cons hh
  obtain rfl := hass_nil hh
  obtain ⟨n, rfl⟩ := has_str h0
  obtain ⟨x, rfl⟩ := has_str h1
  have a := (hf.agg_inv (.str n) (by simp)).str_inv
  have b := (hf.agg_inv (.str x) (by simp)).str_inv
  exact ⟨and_t (decide_eq_true (by show n.length ≤ _; omega)) (decide_eq_true (by show x.length ≤ _; omega)), n, x, rfl⟩
theorem open_byte {v : AV} (h : hasSh (.int .u8) v = true) (hf : Fit v) : bE v = true := by
  obtain ⟨n, rfl⟩ := has_int (k := .u8) (v := v) h
  have := hf.int_inv
  unfold bE
  refine and_t h ?_
  exact this
structure Msg (es bs : List AV) : Prop where
  el : es.length ≤ 140737488351232
  ok : es.all okF = true
  bl : bs.length ≤ 140737488351232
  by_ : bs.all bE = true
theorem Msg.es {es bs : List AV} (h : Msg es bs) : small es.length = true := decide_eq_true (by have := h.el; omega)
theorem Msg.bs {es bs : List AV} (h : Msg es bs) : decide (bs.length ≤ 141000000000000) = true := decide_eq_true (by have := h.bl; omega)
theorem open_msg {v : AV} (h : hasSh (.agg [.slice (.agg [.str, .str]), .slice (.int .u8)]) v = true) (hf : Fit v) : ∃ es bs, v = .agg [.slv (.agg [.str, .str]) es, .slv (.int .u8) bs] ∧ Msg es bs := by
  obtain ⟨cs, rfl, hh⟩ := has_agg h
  obtain ⟨c0, cs, rfl, h0, hh⟩ := hass_cons hh
  obtain ⟨c1, cs, rfl, h1, hh⟩ := hass_cons hh
  obtain rfl := hass_nil hh
  obtain ⟨es, rfl, e1, e2, e3⟩ := has_sliceR h0 (hf.agg_inv c0 (by simp))
  obtain ⟨bs, rfl, b1, b2, b3⟩ := has_sliceR h1 (hf.agg_inv c1 (by simp))
  exact ⟨es, bs, rfl, e1, List.all_eq_true.2 fun e he => (open_field (e2 e he) (e3 e he)).1, b1, List.all_eq_true.2 fun e he => open_byte (b2 e he) (b3 e he)⟩
structure Nms (ns : List AV) : Prop where
  nl : ns.length ≤ 140737488351232
  ok : ns.all okN = true
theorem Nms.ns {ns : List AV} (h : Nms ns) : small ns.length = true := decide_eq_true (by have := h.nl; omega)
theorem open_names {v : AV} (h : hasSh (.slice .str) v = true) (hf : Fit v) : ∃ ns, v = .slv .str ns ∧ Nms ns := by
  obtain ⟨ns, rfl, e1, e2, e3⟩ := has_sliceR (s := .str) h hf
  refine ⟨ns, rfl, e1, List.all_eq_true.2 fun e he => ?_⟩
  obtain ⟨s, rfl⟩ := has_str (e2 e he)
  have := (e3 _ he).str_inv
  exact and_t rfl (decide_eq_true (by show s.length ≤ _; omega))
structure Kys (kk : List AV) : Prop where
  kl : kk.length ≤ 140737488351232
  ok : kk.all okK = true
theorem Kys.ks {kk : List AV} (h : Kys kk) : small kk.length = true := decide_eq_true (by have := h.kl; omega)
theorem open_keys {v : AV} (h : hasSh (.slice (.agg [.str, .int .u64])) v = true) (hf : Fit v) : ∃ kk, v = .slv (.agg [.str, .int .u64]) kk ∧ Kys kk := by
  obtain ⟨kk, rfl, e1, e2, e3⟩ := has_sliceR (s := .agg [.str, .int .u64]) h hf
  refine ⟨kk, rfl, e1, List.all_eq_true.2 fun e he => ?_⟩
  obtain ⟨cs, rfl, hh⟩ := has_agg (e2 e he)
  obtain ⟨c0, cs, rfl, h0, hh⟩ := hass_cons hh
  obtain ⟨n, rfl⟩ := has_str h0
  have := ((e3 _ he).agg_inv (.str n) (by simp)).str_inv
  exact decide_eq_true (by show n.length ≤ _; omega)
theorem fit_str {s : List UInt8} (h : Fit (.str s)) : small s.length = true := decide_eq_true (by have := h.str_inv; omega)
theorem open_bytes {v : AV} (h : hasSh (.slice (.int .u8)) v = true) (hf : Fit v) : ∃ bs, v = .slv (.int .u8) bs ∧ Msg [] bs := by
  obtain ⟨bs, rfl, b1, b2, b3⟩ := has_sliceR (s := .int .u8) h hf
  exact ⟨bs, rfl, Nat.zero_le _, rfl, b1, List.all_eq_true.2 fun e he => open_byte (b2 e he) (b3 e he)⟩
end Go.Proofs.YthdhfmdhjanoaaaGreatDoor


namespace Go.Proofs.YthdhfmdhjanoaaaGreatDoor
open Go.Ev
theorem pfx_at (l1 l2 : List UInt8) (c : UInt8) : pfx (l1 ++ c :: l2) l1.length = [c, 61] := by
  unfold pfx
  rw [List.drop_left, Nat.add_sub_cancel_left]
  rfl
theorem has_pre (p x : List UInt8) : Lib.hasPrefix (p ++ x) p = true := List.isPrefixOf_iff_prefix.2 (List.prefix_append _ _)
theorem trim_pre (p x : List UInt8) : Lib.trimPrefix (p ++ x) p = x := by
  unfold Lib.trimPrefix
  rw [if_pos (has_pre p x), List.drop_left]
def prs : List UInt8 → List (List UInt8) → List (List UInt8)
  | c :: l, x :: xs => ([c, 61] ++ x) :: prs l xs
  | _, _ => []
theorem prs_len : ∀ (l : List UInt8) (xs : List (List UInt8)), xs.length = l.length → (prs l xs).length = l.length
  | [], [], _ => rfl
  | c :: l, x :: xs, h => by
    show (prs l xs).length + 1 = _
    rw [prs_len l xs (by simpa using h)]; rfl
theorem goG_cons (p : Nat → List UInt8) (i : Nat) (pre : List AV) (e : AV) (r : List AV) : goG p i pre (e :: r) = bif Lib.hasPrefix (sE e) (p i) then goG p (i + 1) (pre ++ [.str (Lib.trimPrefix (sE e) (p i))]) r else (false, (i : Int), pre ++ e :: r) := rfl
theorem go_prs : ∀ (l2 l1 : List UInt8) (xs : List (List UInt8)) (pre : List AV), xs.length = l2.length → (goG (pfx (l1 ++ l2)) l1.length pre ((prs l2 xs).map AV.str)).1 = true ∧ (goG (pfx (l1 ++ l2)) l1.length pre ((prs l2 xs).map AV.str)).2.2 = pre ++ xs.map AV.str
  | [], l1, [], pre, _ => ⟨rfl, (List.append_nil _).symm⟩
  | c :: l2, l1, x :: xs, pre, h => by
    have hp := pfx_at l1 l2 c
    have ih := go_prs l2 (l1 ++ [c]) xs (pre ++ [.str x]) (by simpa using h)
    rw [List.append_assoc, List.length_append, List.singleton_append, List.append_assoc] at ih
    have hg : goG (pfx (l1 ++ c :: l2)) l1.length pre ((prs (c :: l2) (x :: xs)).map AV.str) = goG (pfx (l1 ++ c :: l2)) (l1.length + 1) (pre ++ [.str x]) ((prs l2 xs).map AV.str) := by
      show goG _ _ _ (.str ([c, 61] ++ x) :: _) = _
      rw [goG_cons]
      have he : sE (.str ([c, 61] ++ x)) = [c, 61] ++ x := rfl
      rw [hp, he, has_pre, trim_pre]
      rfl
    rw [hg]
    exact ih
theorem vs_join {l : List UInt8} {xs : List (List UInt8)} (h : xs.length = l.length) (hne : l ≠ []) (hno : ∀ x ∈ prs l xs, x.contains 59 = false) : vsB (pfx l) l.length (Lib.join (prs l xs) [59, 32]) = true ∧ vsL (pfx l) l.length (Lib.join (prs l xs) [59, 32]) = xs.map AV.str := by
  have hpl := prs_len l xs h
  have hs : Lib.split (Lib.join (prs l xs) [59, 32]) [59, 32] = prs l xs := split_join (prs l xs) (fun e => by rw [e] at hpl; exact hne (List.length_eq_zero_iff.1 hpl.symm)) hno
  obtain ⟨a, b⟩ := go_prs l [] xs [] h
  have hB : vsB (pfx l) l.length (Lib.join (prs l xs) [59, 32]) = true := by
    unfold vsB
    rw [hs, List.length_map, hpl]
    exact and_t (beq_self_eq_true _) a
  refine ⟨hB, ?_⟩
  unfold vsL
  rw [hB, hs]
  exact b
theorem sm_no {s : List UInt8} (h : nmS s = true) {c : UInt8} (hc : smI (c.toNat : Nat) = false) : s.contains c = false := by
  cases hh : s.contains c
  · rfl
  · rw [List.contains_iff_mem] at hh
    unfold nmS at h
    simp only [Bool.and_eq_true] at h
    rw [allN_all, List.all_eq_true] at h
    have := h.1 c hh
    rw [hc] at this; cases this
theorem hex_no (n : Int) {c : UInt8} (hc : c.toNat = 58 ∨ c.toNat = 59) : (hexS n).contains c = false := by
  cases hh : (hexS n).contains c
  · rfl
  · rw [List.contains_iff_mem] at hh
    have := digs_mem hh
    omega
theorem no_app {a b : List UInt8} {c : UInt8} (h : a.contains c = false) (h' : b.contains c = false) : (a ++ b).contains c = false := by
  simp only [List.contains_eq_mem, List.mem_append, decide_eq_false_iff_not] at *
  simp [h, h']
theorem join_no {p : List UInt8} {c : UInt8} (hp : p.contains c = false) : ∀ l : List (List UInt8), (∀ x ∈ l, x.contains c = false) → (Lib.join l p).contains c = false
  | [], _ => rfl
  | [x], h => by rw [Lib.join_one]; exact h x (by simp)
  | x :: y :: l, h => by
    rw [join_cons2 x (by simp)]
    exact no_app (no_app (h x (by simp)) hp) (join_no hp (y :: l) fun z hz => h z (by simp [hz]))
theorem strs_back {ns : List AV} (h : ns.all okN = true) : (sL ns).map AV.str = ns := by
  unfold sL
  rw [List.map_map]
  conv => rhs; rw [← List.map_id ns]
  refine List.map_congr_left fun e he => ?_
  have := List.all_eq_true.1 h e he
  unfold okN isS at this
  cases e <;> simp at this
  rfl
theorem nsq_names {ns : List AV} (h : ns.all okN = true) (hn : namB ns = true) : nsq (Lib.join (sL ns) [58]) = ns := by
  obtain ⟨_, h1, h2⟩ := nam_all hn
  unfold nsq
  rw [split_join (sL ns) (fun e => by have : (sL ns).length = ns.length := List.length_map _; rw [e] at this; simp at this; omega) fun x hx => by
    obtain ⟨e, he, rfl⟩ := List.mem_map.1 hx
    exact sm_no (h2 e he).1 rfl]
  exact strs_back h
theorem sg_parts {key : Int} {d : List UInt8} {ns es bs : List AV} (hd : nmS d = true) (hn : ns.all okN = true) (hnm : namB ns = true) (hv : vaB es bs ns = true) :
    vsB (pfx l4) l4.length (vaS key d ns es bs) = true ∧ q4 (vaS key d ns es bs) 0 = d ∧ nsq (q4 (vaS key d ns es bs) 1) = ns ∧ hexB (q4 (vaS key d ns es bs) 2) = true ∧ hexB (q4 (vaS key d ns es bs) 3) = true := by
  have hx : ∀ n, hexB (hexS n) = true := fun n => by
    unfold hexB
    rw [hexS_len, allN_all]
    refine and_t rfl (List.all_eq_true.2 fun b hb => ?_)
    have := digs_mem hb
    unfold hxI inR
    simp only [Bool.or_eq_true, Bool.and_eq_true, decide_eq_true_eq]
    omega
  obtain ⟨S2, hS2⟩ : ∃ S2, vaS key d ns es bs = sgFr d (Lib.join (sL ns) [58]) (hexS (sumF key (cbB bs))) ++ hexS S2 := by
    unfold vaS sgS
    rw [hv, strL_sL hn]
    exact ⟨_, rfl⟩
  have hjn : vaS key d ns es bs = Lib.join (prs l4 [d, Lib.join (sL ns) [58], hexS (sumF key (cbB bs)), hexS S2]) [59, 32] := by
    rw [hS2]
    unfold sgFr l4 prs prs prs prs prs
    rw [join_cons2 _ (by simp), join_cons2 _ (by simp), join_cons2 _ (by simp), Lib.join_one]
    simp only [List.append_assoc, List.cons_append, List.nil_append]
  obtain ⟨_, _, h2⟩ := nam_all hnm
  obtain ⟨a, b⟩ := vs_join (l := l4) (xs := [d, Lib.join (sL ns) [58], hexS (sumF key (cbB bs)), hexS S2]) (show (4 : Nat) = 4 from rfl) (by decide) (by
    intro x hx
    unfold l4 prs prs prs prs prs at hx
    simp only [List.mem_cons, List.mem_nil_iff, or_false] at hx
    rcases hx with rfl | rfl | rfl | rfl
    · exact no_app rfl (sm_no hd rfl)
    · exact no_app rfl (join_no rfl _ fun x hx => by
        obtain ⟨e, he, rfl⟩ := List.mem_map.1 hx
        exact sm_no (h2 e he).1 rfl)
    · exact no_app rfl (hex_no _ (.inr rfl))
    · exact no_app rfl (hex_no _ (.inr rfl)))
  rw [← hjn] at a b
  have hq : ∀ i, q4 (vaS key d ns es bs) i = sE (([d, Lib.join (sL ns) [58], hexS (sumF key (cbB bs)), hexS S2].map AV.str).getD i .unk) := fun i => by
    unfold q4 vs4
    rw [b]
  refine ⟨a, hq 0, ?_, ?_, ?_⟩
  · rw [hq 1]; exact nsq_names hn hnm
  · rw [hq 2]; exact hx _
  · rw [hq 3]; exact hx _
theorem dn_shift {p q : Nat → Bool} (h0 : p 0 = false) (hs : ∀ i, p (i + 1) = q i) : ∀ n, dn p (n + 1) = (dn q n).map (· + 1)
  | 0 => by
    unfold dn dn
    rw [h0]; rfl
  | n + 1 => by
    have ih := dn_shift h0 hs n
    rw [show dn p (n + 1 + 1) = bif p (n + 1) then some (n + 1) else dn p (n + 1) from rfl, show dn q (n + 1) = bif q n then some n else dn q n from rfl, hs n, ih]
    cases q n <;> rfl
theorem selF_front {f : AV} {es : List AV} : ∀ (ns : List AV) (u : AV) (us : List AV), (∀ n ∈ ns, eqF (fN f) (sE n) = false) → (selF (f :: es) ns (u :: us)).1 = (selF es ns us).1
  | [], _, _, _ => rfl
  | n :: ns, u, us, h => by
    rw [selF_cons, selF_cons]
    have hd : dn (frB (f :: es) (u :: us) (sE n)) (f :: es).length = (dn (frB es us (sE n)) es.length).map (· + 1) := dn_shift (by
      show (!uB u && eqF (fN f) (sE n)) = false
      rw [h n (by simp), Bool.and_false]) (fun i => rfl) es.length
    rw [hd]
    cases dn (frB es us (sE n)) es.length with
    | none => exact selF_front ns u us fun m hm => h m (by simp [hm])
    | some q =>
      show fldE (es.getD q .unk) ++ (selF (f :: es) ns (u :: us.set q (.bool true))).1 = fldE (es.getD q .unk) ++ (selF es ns (us.set q (.bool true))).1
      rw [selF_front ns u _ fun m hm => h m (by simp [hm])]
theorem nam_not {ns : List AV} (h : namB ns = true) : ∀ n ∈ ns, eqF sgF (sE n) = false := fun n hn => by
  obtain ⟨h1, h2⟩ := (nam_all h).2.2 n hn
  have hl := nm_low h1
  unfold eqF
  rw [hl, show lowS sgF = sgL from by decide]
  cases hb : (sgL == sE n)
  · rw [Bool.and_false]
  · have : sgL = sE n := by simpa using hb
    rw [← this] at h2
    simp at h2
theorem cf_front {f : AV} {es ns : List AV} (h : (hvC (f :: es) == 0) = true) (h' : (hvC es == 0) = true) (hn : ∀ n ∈ ns, eqF (fN f) (sE n) = false) : cfC (f :: es) ns = cfC es ns ∧ cfB (f :: es) ns = cfB es ns := by
  unfold cfC cfB
  rw [h, h']
  refine ⟨rfl, ?_⟩
  cases decide ((ns.length : Int) > 300)
  · exact selF_front ns _ _ hn
  · rfl
theorem va_front {f : AV} {es bs ns : List AV} (key : Int) (d : List UInt8) (h : (hvC (f :: es) == 0) = true) (h' : (hvC es == 0) = true) (hn : ∀ n ∈ ns, eqF (fN f) (sE n) = false) : vaB (f :: es) bs ns = vaB es bs ns ∧ vaS key d ns (f :: es) bs = vaS key d ns es bs := by
  obtain ⟨a, b⟩ := cf_front h h' hn
  have hB : vaB (f :: es) bs ns = vaB es bs ns := by unfold vaB; rw [a]
  refine ⟨hB, ?_⟩
  unfold vaS
  rw [hB, b]
theorem ve_front {f : AV} {es bs kk : List AV} (v : List UInt8) (h : (hvC (f :: es) == 0) = true) (h' : (hvC es == 0) = true) (hn : vkB v = true → ∀ n ∈ nsq (q4 v 1), eqF (fN f) (sE n) = false) : veR (f :: es) bs kk v = veR es bs kk v := by
  unfold veR
  cases hv : vkB v
  · exact Eq.trans (cond_t rfl) (cond_t rfl).symm
  · cases keyB kk (q4 v 0)
    · exact Eq.trans (cond_f rfl) (Eq.trans (cond_t rfl) (Eq.trans (cond_f rfl) (cond_t rfl)).symm)
    · simp only [Bool.not_true, cond_false]
      rw [(va_front (keyV kk (q4 v 0)) (q4 v 0) h h' (hn hv)).2]
theorem uN_spec {a : Int} (ha : uN a = true) : 0 ≤ a ∧ a < 18446744073709551616 := by
  unfold uN at ha
  simpa using ha
theorem pow16 : (16 : Nat) ^ 16 = 18446744073709551616 := rfl
theorem digs16 {a b : Nat} (ha : a < 18446744073709551616) (hb : b < 18446744073709551616) (h : digs 16 a = digs 16 b) : a = b := digs_inj 16 a b (pow16 ▸ ha) (pow16 ▸ hb) h
theorem hexS_inj {a b : Int} (ha : uN a = true) (hb : uN b = true) (h : hexS a = hexS b) : a = b := by
  obtain ⟨a0, a1⟩ := uN_spec ha
  obtain ⟨b0, b1⟩ := uN_spec hb
  have := digs16 (a := a.toNat) (b := b.toNat) (by omega) (by omega) h
  omega
theorem sgS_inj {key : Int} {d n : List UInt8} {B1 B2 H : List AV} : (sgS key d n B1 H == sgS key d n B2 H) = (sumF key B1 == sumF key B2) := by
  cases h : sumF key B1 == sumF key B2
  · cases h2 : sgS key d n B1 H == sgS key d n B2 H
    · rfl
    · have e : sgS key d n B1 H = sgS key d n B2 H := by simpa using h2
      unfold sgS at e
      obtain ⟨e1, _⟩ := List.append_inj e (by unfold sgFr; simp only [List.length_append, hexS_len])
      unfold sgFr at e1
      obtain ⟨e2, _⟩ := List.append_inj e1 (by simp only [List.length_append, hexS_len])
      obtain ⟨_, e3⟩ := List.append_inj e2 rfl
      have := hexS_inj (uN_sum key B1) (uN_sum key B2) e3
      rw [this] at h
      simp at h
  · have e : sumF key B1 = sumF key B2 := by simpa using h
    unfold sgS
    rw [e]
    simp
end Go.Proofs.YthdhfmdhjanoaaaGreatDoor


namespace Go.Proofs.YthdhfmdhjanoaaaGreatDoor
open Go.Ev
theorem cbZ {bs es : List AV} (h : (vdC es bs == 0) = true) : (cbC bs == 0) = true ∧ bs.length ≤ 12000 := by
  have h0 := vd_hv h
  unfold vdC at h
  rw [h0] at h
  cases h1 : decide (((wrF es ++ two ++ bs).length : Int) > 12000)
  · have hl := of_decide_eq_false h1
    rw [List.length_append, List.length_append] at hl
    have hb : bs.length ≤ 12000 := by omega
    refine ⟨?_, hb⟩
    unfold cbC
    rw [decide_eq_false (by omega)]
    rfl
  · rw [h1] at h; cases h
theorem pk_ok (n : List UInt8) {es : List AV} (hv : es.all okV = true) : (pkF n es).all okN = true ∧ ∀ x ∈ strL (pkF n es), x.length ≤ 4000 := by
  have key : ∀ e ∈ pkF n es, ∃ x, e = .str x ∧ x.length ≤ 4000 := fun e he => by
    unfold pkF at he
    obtain ⟨f, hf, rfl⟩ := List.mem_map.1 he
    have hov := List.all_eq_true.1 hv f (List.mem_filter.1 hf).1
    have h2 : (fN f).length ≤ 60 ∧ (fV f).length ≤ 4000 := of_decide_eq_true hov
    exact ⟨fV f, rfl, h2.2⟩
  refine ⟨List.all_eq_true.2 fun e he => ?_, fun x hx => ?_⟩
  · obtain ⟨x, rfl, hx⟩ := key e he
    exact and_t rfl (decide_eq_true (by show x.length ≤ _; omega))
  · unfold strL at hx
    obtain ⟨e, he, rfl⟩ := List.mem_map.1 hx
    obtain ⟨x, rfl, hlx⟩ := key e he
    exact hlx
theorem pk_join {es : List AV} (hv : es.all okV = true) (h60 : es.length ≤ 60) : (Lib.join (strL (pkF cuF es)) [10]).length ≤ 250000 := by
  have h1 := join_len [10] 4000 (strL (pkF cuF es)) (pk_ok cuF hv).2
  have h2 : (strL (pkF cuF es)).length = (pkF cuF es).length := List.length_map _
  have h3 := pkF_len cuF es
  rw [h2] at h1
  have h4 : ([10] : List UInt8).length = 1 := rfl
  rw [h4] at h1
  have h5 : (pkF cuF es).length * (4000 + 1) ≤ 60 * 4001 := Nat.mul_le_mul (by omega) (Nat.le_refl _)
  omega
theorem cuS_len {key : Int} {n y r s b : List UInt8} (hn : n.length ≤ 2) (hy : y.length ≤ 60) (hr : r.length ≤ 60) (hs : s.length ≤ 16) : (cuS key n y r s b).length ≤ 1000 := by
  unfold cuS cuFr
  simp only [List.length_append, List.length_cons, List.length_nil, hexS_len]
  omega
def cuV (key : Int) (y r : List UInt8) (es bs : List AV) : List UInt8 := cuS key (dig ((pkF cuF es).length + 1)) y r (hexS (sumF 0 (cbB bs))) (Lib.join (strL (pkF cuF es)) [10])
def cuM (key : Int) (y r : List UInt8) (es bs : List AV) : List AV := .agg [.str cuF, .str (cuV key y r es bs)] :: es
def seC (key : Int) (y r : List UInt8) (es bs : List AV) : Int := bif !(vdC es bs == 0) then vdC es bs else bif !nmS y then 10 else bif !nmS r then 10 else vdC (cuM key y r es bs) bs
def seI (key : Int) (y r : List UInt8) (es bs : List AV) : Int := bif !(vdC es bs == 0) then vdI es bs else bif !nmS y then -20 else bif !nmS r then -21 else bif !(vdC (cuM key y r es bs) bs == 0) then -23 else 0
def seF (key : Int) (y r : List UInt8) (es bs : List AV) : List AV := bif seC key y r es bs == 0 then cuM key y r es bs else []
def seB (key : Int) (y r : List UInt8) (es bs : List AV) : List AV := bif seC key y r es bs == 0 then bs else []
noncomputable def G32 : Env := { pure := [(18, ofT F18), (42, ofT F19), (46, ofT F46), (62, ofT F62), (63, ofT F63), (64, ofT F64), (65, ofT F65), (41, evF Tryz.prog G0 [] Tryz.f41), (43, evF Tryz.prog G0 [] Tryz.f43), (47, evF Tryz.prog G0 [] Tryz.f47)] }
theorem g32 : GOK Tryz.prog G32 := GOK.also (GOK.also (GOK.also (GOK.also (GOK.also (GOK.also (GOK.also (GOK.also (GOK.also (GOK.also g0 (inl g0 Tryz.func47 (by kernel_rfl))) (inl g0 Tryz.func43 (by kernel_rfl))) (inl g0 Tryz.func41 (by kernel_rfl))) ok65) ok64) ok63) ok62) ok46) ok42') ok18
def F32 : List AV → Tr AV
  | [.agg [.slv (.agg [.str, .str]) es, .slv (.int .u8) bs], .str y, .int .u64 key, .str r'] => .gd ((small es.length && es.all okF) && (bs.all bE && ((small y.length && small r'.length) && decide (bs.length ≤ 141000000000000)))) (.leaf (.tup [.agg [.slv (.agg [.str, .str]) (seF key y r' es bs), .slv (.int .u8) (seB key y r' es bs)], .agg [.int .i64 (seC key y r' es bs), .int .i64 (seI key y r' es bs)]]))
  | _ => .no
theorem ok32 : SumOK Tryz.prog 32 (ofT F32) ∧ SNat (ofT F32) := by
  refine fn0 g32 Tryz.func32 (by kernel_rfl) fun ρ avs k r h => ?_
  unfold F32 at h
  split at h
  · rename_i es bs y key r'
    obtain ⟨hc, hk⟩ := gd_some h
    refine Eq.trans (b := bif small es.length && (es.all okF && decide (bs.length ≤ (141000000000000 : Nat))) then bif vdC es bs != (0 : Int) then k (AV.tup [AV.agg [AV.slv (Sh.agg [Sh.str, Sh.str]) [], AV.slv (Sh.int IntKind.u8) []], AV.agg [AV.int IntKind.i64 (vdC es bs), AV.int IntKind.i64 (vdI es bs)]]) else bif bs.all bE then bif small y.length then bif !nmS y then k (AV.tup [AV.agg [AV.slv (Sh.agg [Sh.str, Sh.str]) [], AV.slv (Sh.int IntKind.u8) []], AV.agg [AV.int IntKind.i64 (10 : Int), AV.int IntKind.i64 (-20 : Int)]]) else bif small r'.length then bif !nmS r' then k (AV.tup [AV.agg [AV.slv (Sh.agg [Sh.str, Sh.str]) [], AV.slv (Sh.int IntKind.u8) []], AV.agg [AV.int IntKind.i64 (10 : Int), AV.int IntKind.i64 (-21 : Int)]]) else bif !cbC bs == (0 : Int) then k (AV.tup [AV.agg [AV.slv (Sh.agg [Sh.str, Sh.str]) [], AV.slv (Sh.int IntKind.u8) []], AV.agg [AV.int IntKind.i64 (17 : Int), AV.int IntKind.i64 (-22 : Int)]]) else bif es.all okF && decide (es.length ≤ (1000000 : Nat)) then bif inR (IntKind.i64.wrap ((↑(pkF cuF es).length : Int) + (1 : Int))) (0 : Int) (99 : Int) then bif decide ((dig (IntKind.i64.wrap ((↑(pkF cuF es).length : Int) + (1 : Int))).toNat).length ≤ (1000000 : Nat) ∧ y.length ≤ (1000000 : Nat) ∧ r'.length ≤ (1000000 : Nat) ∧ (hexS (sumF (0 : Int) (cbB bs))).length ≤ (1000000 : Nat)) && decide ((pkF cuF es).length ≤ (1000000 : Nat) ∧ (Lib.join (strL (pkF cuF es)) [(10 : UInt8)]).length ≤ (1000000 : Nat)) then bif decide (es.length ≤ (900000 : Nat) ∧ bs.length ≤ (141000000000000 : Nat)) then bif small (AV.agg [AV.str ([77, 97, 105, 108, 45, 67, 117, 115, 116, 111, 100, 121] : List UInt8), AV.str (cuS key (dig (IntKind.i64.wrap ((↑(pkF cuF es).length : Int) + (1 : Int))).toNat) y r' (hexS (sumF (0 : Int) (cbB bs))) (Lib.join (strL (pkF cuF es)) [(10 : UInt8)]))] :: es).length && ((AV.agg [AV.str ([77, 97, 105, 108, 45, 67, 117, 115, 116, 111, 100, 121] : List UInt8), AV.str (cuS key (dig (IntKind.i64.wrap ((↑(pkF cuF es).length : Int) + (1 : Int))).toNat) y r' (hexS (sumF (0 : Int) (cbB bs))) (Lib.join (strL (pkF cuF es)) [(10 : UInt8)]))] :: es).all okF && decide (bs.length ≤ (141000000000000 : Nat))) then bif vdC (AV.agg [AV.str ([77, 97, 105, 108, 45, 67, 117, 115, 116, 111, 100, 121] : List UInt8), AV.str (cuS key (dig (IntKind.i64.wrap ((↑(pkF cuF es).length : Int) + (1 : Int))).toNat) y r' (hexS (sumF (0 : Int) (cbB bs))) (Lib.join (strL (pkF cuF es)) [(10 : UInt8)]))] :: es) bs != (0 : Int) then k (AV.tup [AV.agg [AV.slv (Sh.agg [Sh.str, Sh.str]) [], AV.slv (Sh.int IntKind.u8) []], AV.agg [AV.int IntKind.i64 (vdC (AV.agg [AV.str ([77, 97, 105, 108, 45, 67, 117, 115, 116, 111, 100, 121] : List UInt8), AV.str (cuS key (dig (IntKind.i64.wrap ((↑(pkF cuF es).length : Int) + (1 : Int))).toNat) y r' (hexS (sumF (0 : Int) (cbB bs))) (Lib.join (strL (pkF cuF es)) [(10 : UInt8)]))] :: es) bs), AV.int IntKind.i64 (-23 : Int)]]) else k (AV.tup [AV.agg [AV.slv (Sh.agg [Sh.str, Sh.str]) (AV.agg [AV.str [(77 : UInt8), (97 : UInt8), (105 : UInt8), (108 : UInt8), (45 : UInt8), (67 : UInt8), (117 : UInt8), (115 : UInt8), (116 : UInt8), (111 : UInt8), (100 : UInt8), (121 : UInt8)], AV.str (cuS key (dig (IntKind.i64.wrap ((↑(pkF cuF es).length : Int) + (1 : Int))).toNat) y r' (hexS (sumF (0 : Int) (cbB bs))) (Lib.join (strL (pkF cuF es)) [(10 : UInt8)]))] :: es), AV.slv (Sh.int IntKind.u8) bs], AV.agg [AV.int IntKind.i64 (0 : Int), AV.int IntKind.i64 (0 : Int)]]) else none else none else none else none else none else none else none else none else none) (by kernel_rfl) ?_
    rw [← hk]
    simp only [Bool.and_eq_true] at hc
    obtain ⟨⟨hs, hall⟩, hb, ⟨hy, hr⟩, hbl⟩ := hc
    refine Eq.trans (cond_t (and_t hs (and_t hall hbl))) ?_
    unfold seF seB seI
    unfold seC
    cases h1 : vdC es bs == 0
    · simp only [bne, h1, Bool.not_false, cond_true, cond_false]
      rfl
    simp only [bne, h1, Bool.not_true, cond_false]
    refine Eq.trans (cond_t hb) (Eq.trans (cond_t hy) ?_)
    cases h2 : nmS y
    · rfl
    refine Eq.trans (cond_f rfl) (Eq.trans (cond_t hr) ?_)
    cases h3 : nmS r'
    · rfl
    have h60 := hv_len (vd_hv h1)
    have hv := hv_ok (vd_hv h1)
    have hpl := pkF_len cuF es
    have hpj := pk_join hv h60
    have hy6 := (nm_len h2).1
    have hr6 := (nm_len h3).1
    have hdg := dig_len ((pkF cuF es).length + 1)
    have hvl := cuS_len (key := key) (b := Lib.join (strL (pkF cuF es)) [10]) hdg hy6 hr6 (show (hexS (sumF 0 (cbB bs))).length ≤ 16 by rw [hexS_len]; exact Nat.le_refl _)
    have hbl' := of_decide_eq_true hbl
    have hw : IntKind.i64.wrap (((pkF cuF es).length : Int) + 1) = (((pkF cuF es).length + 1 : Nat) : Int) := by rw [wrap_mid _ (by omega) (by omega)]; omega
    have hM : (AV.agg [AV.str ([77, 97, 105, 108, 45, 67, 117, 115, 116, 111, 100, 121] : List UInt8), AV.str (cuS key (dig ((pkF cuF es).length + 1)) y r' (hexS (sumF 0 (cbB bs))) (Lib.join (strL (pkF cuF es)) [10]))] :: es) = cuM key y r' es bs := rfl
    simp only [hw, Int.toNat_natCast]
    rw [(cbZ h1).1, hM]
    have hMl : small (cuM key y r' es bs).length = true := decide_eq_true (by show es.length + 1 ≤ _; omega)
    have hMa : (cuM key y r' es bs).all okF = true := by
      show ((small 12 && small (cuV key y r' es bs).length) && es.all okF) = true
      rw [hall, small_t (show (cuV key y r' es bs).length ≤ _ by unfold cuV; omega)]
      rfl
    refine Eq.trans (cond_f rfl) (Eq.trans (cond_f rfl) (Eq.trans (cond_t (and_t hall (decide_eq_true (by omega)))) (Eq.trans (cond_t (inR_of (by omega) (by omega))) (Eq.trans (cond_t (and_t (decide_eq_true ⟨by omega, by omega, by omega, by rw [hexS_len]; omega⟩) (decide_eq_true ⟨by omega, by omega⟩))) (Eq.trans (cond_t (decide_eq_true ⟨by omega, hbl'⟩)) (Eq.trans (cond_t (and_t hMl (and_t hMa hbl))) ?_))))))
    cases h5 : vdC (cuM key y r' es bs) bs == 0
    · simp only [Bool.not_false, Bool.not_true, h5, cond_true, cond_false]
      rfl
    · have h50 : vdC (cuM key y r' es bs) bs = 0 := by simpa using h5
      simp only [Bool.not_true, h50, cond_false]
      rfl
  · cases h
def l5 : List UInt8 := [110, 121, 114, 98, 115]
def vs5 (v : List UInt8) : List AV := vsL (pfx l5) l5.length v
def q5 (v : List UInt8) (i : Nat) : List UInt8 := sE ((vs5 v).getD i .unk)
theorem q5_len (v : List UInt8) (i : Nat) (h : vsB (pfx l5) l5.length v = true) (hi : i < 5) : i < (vs5 v).length ∧ (q5 v i).length ≤ v.length := by
  obtain ⟨a, b⟩ := vs_sh (pfx l5) l5.length v
  have hl : (vs5 v).length = 5 := b h
  have := all_getD a (i := i) (by rw [show (vsL (pfx l5) l5.length v).length = 5 from hl]; exact hi)
  unfold shB at this
  simp only [Bool.and_eq_true, decide_eq_true_eq] at this
  exact ⟨by omega, this.2⟩
def ckB (i : Int) (v : List UInt8) (all kk : List AV) (sum : List UInt8) : Bool := vsB (pfx l5) l5.length v && (q5 v 0 == dig ((all.length : Int) - i).toNat && (nmS (q5 v 1) && (nmS (q5 v 2) && (hexB (q5 v 3) && (keyB kk (q5 v 1) && (cuS (keyV kk (q5 v 1)) (q5 v 0) (q5 v 1) (q5 v 2) (q5 v 3) (Lib.join (strL (all.drop (i + 1).toNat)) [10]) == v && (decide (i > 0) || q5 v 3 == sum)))))))
noncomputable def G67 : Env := { pure := [(68, ofT F68), (65, ofT F65), (42, ofT F19), (69, ofT F69), (70, ofT F70), (64, ofT F64)] }
theorem g67 : GOK Tryz.prog G67 := GOK.also (GOK.also (GOK.also (GOK.also (GOK.also (GOK.also g0 ok64) ok70) ok69) ok42') ok65) ok68
def F67 : List AV → Tr AV
  | [.int .i64 i, .str v, .ref [.slv .str all], .ref [.slv (.agg [.str, .int .u64]) kk], .ref [.str sum]] => .gd (decide (0 ≤ i ∧ i < all.length ∧ all.length ≤ 99 ∧ v.length ≤ 100000) && (small kk.length && decide ((Lib.join (strL (all.drop (i + 1).toNat)) [10]).length ≤ 1000000))) (.leaf (.bool (ckB i v all kk sum)))
  | _ => .no
theorem ok67 : SumOK Tryz.prog 67 (ofT F67) ∧ SNat (ofT F67) := by
  refine fn0 g67 Tryz.func67 (by kernel_rfl) fun ρ avs k r h => ?_
  unfold F67 at h
  split at h
  · rename_i i v all kk sum
    obtain ⟨hc, hk⟩ := gd_some h
    refine Eq.trans (b := bif decide (v.length ≤ (1000000 : Nat) ∧ ([110, 121, 114, 98, 115] : List UInt8).length ≤ (100 : Nat)) then bif !vsB (pfx ([110, 121, 114, 98, 115] : List UInt8)) ([110, 121, 114, 98, 115] : List UInt8).length v then k (AV.bool false) else bif inb (0 : Int) (vs5 v).length then bif inR (IntKind.i64.wrap ((↑all.length : Int) - i)) (0 : Int) (99 : Int) then bif !(q5 v 0) == dig (IntKind.i64.wrap ((↑all.length : Int) - i)).toNat then k (AV.bool false) else bif inb (1 : Int) (vs5 v).length then bif small (q5 v 1).length then bif !nmS (q5 v 1) then k (AV.bool false) else bif inb (2 : Int) (vs5 v).length then bif small (q5 v 2).length then bif !nmS (q5 v 2) then k (AV.bool false) else bif inb (3 : Int) (vs5 v).length then bif small (q5 v 3).length then bif !hexB (q5 v 3) then k (AV.bool false) else bif inb (1 : Int) (vs5 v).length then bif small kk.length then bif keyB kk (q5 v 1) then bif inb (0 : Int) (vs5 v).length then bif inb (1 : Int) (vs5 v).length then bif inb (2 : Int) (vs5 v).length then bif inb (3 : Int) (vs5 v).length then bif slb (IntKind.i64.wrap (i + (1 : Int))) (↑all.length : Int) all.length then bif decide ((q5 v 0).length ≤ (1000000 : Nat) ∧ (q5 v 1).length ≤ (1000000 : Nat) ∧ (q5 v 2).length ≤ (1000000 : Nat) ∧ (q5 v 3).length ≤ (1000000 : Nat)) && decide ((List.take ((↑all.length : Int).toNat - (IntKind.i64.wrap (i + (1 : Int))).toNat) (List.drop (IntKind.i64.wrap (i + (1 : Int))).toNat all)).length ≤ (1000000 : Nat) ∧ (Lib.join (strL (List.take ((↑all.length : Int).toNat - (IntKind.i64.wrap (i + (1 : Int))).toNat) (List.drop (IntKind.i64.wrap (i + (1 : Int))).toNat all))) [(10 : UInt8)]).length ≤ (1000000 : Nat)) then bif cuS (keyV kk (q5 v 1)) (q5 v 0) (q5 v 1) (q5 v 2) (q5 v 3) (Lib.join (strL (List.take ((↑all.length : Int).toNat - (IntKind.i64.wrap (i + (1 : Int))).toNat) (List.drop (IntKind.i64.wrap (i + (1 : Int))).toNat all))) [(10 : UInt8)]) == v then bif decide (i > (0 : Int)) then k (AV.bool true) else bif inb (3 : Int) (vs5 v).length then k (AV.bool ((q5 v 3) == sum)) else none else k (AV.bool false) else none else none else none else none else none else none else k (AV.bool false) else none else none else none else none else none else none else none else none else none else none else none) (by kernel_rfl) ?_
    rw [← hk]
    simp only [Bool.and_eq_true] at hc
    obtain ⟨hc1, hkk, hjj⟩ := hc
    obtain ⟨i0, i1, i2, hv'⟩ := of_decide_eq_true hc1
    have hjl := of_decide_eq_true hjj
    obtain ⟨j, rfl⟩ : ∃ j : Nat, i = j := ⟨i.toNat, by omega⟩
    have w1 : IntKind.i64.wrap ((j : Int) + 1) = ((j + 1 : Nat) : Int) := by rw [wrap_mid _ (by omega) (by omega)]; omega
    have w2 : IntKind.i64.wrap ((all.length : Int) - (j : Int)) = (all.length : Int) - (j : Int) := wrap_mid _ (by omega) (by omega)
    have t1 : ((j : Int) + 1).toNat = j + 1 := by omega
    have ht : List.take (all.length - (j + 1)) (List.drop (j + 1) all) = all.drop (j + 1) := List.take_of_length_le (by rw [List.length_drop]; exact Nat.le_refl _)
    rw [t1] at hjl
    unfold ckB
    simp only [w1, w2, t1, Int.toNat_natCast, ht]
    refine Eq.trans (cond_t (decide_eq_true ⟨by omega, by decide⟩)) ?_
    have hl4 : (pfx ([110, 121, 114, 98, 115] : List UInt8)) = pfx l5 := rfl
    have hl5 : ([110, 121, 114, 98, 115] : List UInt8).length = l5.length := rfl
    rw [hl4, hl5]
    cases h1 : vsB (pfx l5) l5.length v
    · rfl
    obtain ⟨k0, n0⟩ := q5_len v 0 h1 (by decide)
    obtain ⟨k1, n1⟩ := q5_len v 1 h1 (by decide)
    obtain ⟨k2, n2⟩ := q5_len v 2 h1 (by decide)
    obtain ⟨k3, n3⟩ := q5_len v 3 h1 (by decide)
    have j0 : inb 0 (vs5 v).length = true := inb_true (by omega) (by omega)
    have j1 : inb 1 (vs5 v).length = true := inb_true (by omega) (by omega)
    have j2 : inb 2 (vs5 v).length = true := inb_true (by omega) (by omega)
    have j3 : inb 3 (vs5 v).length = true := inb_true (by omega) (by omega)
    refine Eq.trans (cond_f rfl) (Eq.trans (cond_t j0) (Eq.trans (cond_t (inR_of (by omega) (by omega))) ?_))
    cases h2 : q5 v 0 == dig ((all.length : Int) - (j : Int)).toNat
    · rfl
    refine Eq.trans (cond_f rfl) (Eq.trans (cond_t j1) (Eq.trans (cond_t (small_t (by omega))) ?_))
    cases h3 : nmS (q5 v 1)
    · rfl
    refine Eq.trans (cond_f rfl) (Eq.trans (cond_t j2) (Eq.trans (cond_t (small_t (by omega))) ?_))
    cases h4 : nmS (q5 v 2)
    · rfl
    refine Eq.trans (cond_f rfl) (Eq.trans (cond_t j3) (Eq.trans (cond_t (small_t (by omega))) ?_))
    cases h5 : hexB (q5 v 3)
    · rfl
    refine Eq.trans (cond_f rfl) (Eq.trans (cond_t j1) (Eq.trans (cond_t hkk) ?_))
    cases h6 : keyB kk (q5 v 1)
    · rfl
    have hdl : (all.drop (j + 1)).length ≤ 1000000 := by rw [List.length_drop]; omega
    refine Eq.trans (cond_t rfl) (Eq.trans (cond_t j0) (Eq.trans (cond_t j1) (Eq.trans (cond_t j2) (Eq.trans (cond_t j3) (Eq.trans (cond_t (slb_true (by omega) (by omega) (Int.le_refl _))) (Eq.trans (cond_t (and_t (decide_eq_true ⟨by omega, by omega, by omega, by omega⟩) (decide_eq_true ⟨hdl, hjl⟩))) ?_))))))
    cases cuS (keyV kk (q5 v 1)) (q5 v 0) (q5 v 1) (q5 v 2) (q5 v 3) (Lib.join (strL (all.drop (j + 1))) [10]) == v
    · rfl
    cases h7 : decide ((j : Int) > 0)
    · exact Eq.trans (cond_t rfl) (Eq.trans (cond_f rfl) (Eq.trans (cond_t j3) rfl))
    · rfl
  · cases h
theorem strL_drop (l : List AV) (i : Nat) : strL (l.drop i) = (strL l).drop i := by unfold strL; rw [List.map_drop]
theorem join_drop {l : List AV} {i m : Nat} (h : ∀ x ∈ strL l, x.length ≤ m) : (Lib.join (strL (l.drop i)) [10]).length ≤ l.length * (m + 1) := by
  have h1 := join_len [10] m (strL (l.drop i)) fun x hx => h x (by rw [strL_drop] at hx; exact List.mem_of_mem_drop hx)
  have h2 : (strL (l.drop i)).length ≤ l.length := by unfold strL; rw [List.length_map, List.length_drop]; omega
  have h4 : ([10] : List UInt8).length = 1 := rfl
  rw [h4] at h1
  exact Nat.le_trans h1 (Nat.mul_le_mul_right _ h2)
def ckA (all al2 kk : List AV) (sum : List UInt8) : Nat → Nat → Bool
  | 0, _ => true
  | n + 1, i => ckB i (sE (all.getD i .unk)) al2 kk sum && ckA all al2 kk sum n (i + 1)
theorem ckA_succ (all al2 kk : List AV) (sum : List UInt8) (n i : Nat) : ckA all al2 kk sum (n + 1) i = (ckB i (sE (all.getD i .unk)) al2 kk sum && ckA all al2 kk sum n (i + 1)) := rfl
def shW (e : AV) : Bool := isS e && decide ((sE e).length ≤ 4000)
theorem shW_strL {l : List AV} (h : l.all shW = true) : ∀ x ∈ strL l, x.length ≤ 4000 := fun x hx => by
  unfold strL at hx
  obtain ⟨e, he, rfl⟩ := List.mem_map.1 hx
  have := List.all_eq_true.1 h e he
  unfold shW isS at this
  cases e <;> simp at this
  exact this
noncomputable def G35 : Env := { pure := [(18, ofT F18), (56, ofT F56), (62, ofT F62), (63, ofT F63), (67, ofT F67), (41, evF Tryz.prog G0 [] Tryz.f41), (43, evF Tryz.prog G0 [] Tryz.f43), (47, evF Tryz.prog G0 [] Tryz.f47)] }
theorem g35 : GOK Tryz.prog G35 := GOK.also (GOK.also (GOK.also (GOK.also (GOK.also (GOK.also (GOK.also (GOK.also g0 (inl g0 Tryz.func47 (by kernel_rfl))) (inl g0 Tryz.func43 (by kernel_rfl))) (inl g0 Tryz.func41 (by kernel_rfl))) ok67) ok63) ok62) ok56) ok18
noncomputable def b35 : Code := ((Tryz.f35.body.map loopsOf).getD []).headD .skip
def ckR (b : Bool) (all al2 kk : List AV) (sum : List UInt8) (i : Int) : Bool := b && ckA all al2 kk sum (all.length - i.toNat) i.toNat
def L35 : List AV → List (Option Row) → Tr LOut
  | [.ptr 4 0, .ptr 450 0, .bool b, .fn 67 [.ptr 450 0, .ptr 1 0, .ptr 517 0], .slv .str all, .int .i64 n, .int .i64 i], [some (.box m1 [.slv (.agg [.str, .int .u64]) kk]), some (.box false [.int .i64 0, .int .i64 0]), some (.box m2 [.slv .str al2]), some (.box m3 [.str sum])] =>
    .gd ((cnt n i all.length && all.all shW) && ((al2.all shW && small kk.length) && decide (all.length = al2.length ∧ al2.length ≤ 99))) (.leaf (.exit 0, [.ptr 4 0, .ptr 450 0, .bool (ckR b all al2 kk sum i), .fn 67 [.ptr 450 0, .ptr 1 0, .ptr 517 0], .slv .str all, .int .i64 n, .int .i64 all.length], [some (.box m1 [.slv (.agg [.str, .int .u64]) kk]), some (.box false [.int .i64 0, .int .i64 0]), some (.box m2 [.slv .str al2]), some (.box m3 [.str sum])]))
  | _, _ => .no
def l35 : Ev.Loop := ⟨{ len := 57, slots := [6, 9, 11, 12, 33, 34, 35], rows := [1, 4, 450, 517] }, ofL L35⟩
def μ35 (vs : List AV) (_ : List (Option Row)) : Nat := match vs with
  | [_, _, _, _, _, .int _ n, .int _ i] => (n - i).toNat
  | _ => 0
theorem loop35 : LoopOK Tryz.prog G35 [(11, l35)] b35 l35 := by
  refine loopT g35.natOK rfl (KOK.nil (by kernel_rfl)) μ35 (fun ρ vs rs k r h => ?_)
  unfold L35 at h
  split at h
  · rename_i b all n i m1 kk m2 al2 m3 sum
    obtain ⟨hc, hk⟩ := gd_some h
    simp only [Bool.and_eq_true] at hc
    obtain ⟨⟨hc, ha⟩, ⟨ha2, hkk⟩, hl⟩ := hc
    obtain ⟨rfl, hs, j, rfl, hj⟩ := cnt_spec hc
    refine Eq.trans (b := bif decide ((↑j : Int) < (↑all.length : Int)) then bif inb (↑j : Int) all.length then bif b then bif decide ((0 : Int) ≤ (↑j : Int) ∧ (↑j : Int) < (↑al2.length : Int) ∧ al2.length ≤ (99 : Nat) ∧ (sE (all.getD j AV.unk)).length ≤ (100000 : Nat)) && (small kk.length && decide ((Lib.join (strL (List.drop ((↑j : Int) + (1 : Int)).toNat al2)) [(10 : UInt8)]).length ≤ (1000000 : Nat))) then bif decide (((↑all.length : Int) - IntKind.i64.wrap ((↑j : Int) + (1 : Int))).toNat < ((↑all.length : Int) - (↑j : Int)).toNat) then bif cnt (↑all.length : Int) (IntKind.i64.wrap ((↑j : Int) + (1 : Int))) all.length && all.all shW && (al2.all shW && small kk.length && decide (all.length = al2.length ∧ al2.length ≤ (99 : Nat))) then k (Ex.exit (0 : Nat)) [AV.ptr (4 : Nat) (0 : Nat), AV.ptr (450 : Nat) (0 : Nat), AV.bool (ckR (ckB (↑j : Int) (sE (all.getD j AV.unk)) al2 kk sum) all al2 kk sum (IntKind.i64.wrap ((↑j : Int) + (1 : Int)))), AV.fn (67 : Nat) [AV.ptr (450 : Nat) (0 : Nat), AV.ptr (1 : Nat) (0 : Nat), AV.ptr (517 : Nat) (0 : Nat)], AV.slv Sh.str all, AV.int IntKind.i64 (↑all.length : Int), AV.int IntKind.i64 (↑all.length : Int)] [some (Row.box m1 [AV.slv (Sh.agg [Sh.str, Sh.int IntKind.u64]) kk]), some (Row.box false [AV.int IntKind.i64 (0 : Int), AV.int IntKind.i64 (0 : Int)]), some (Row.box m2 [AV.slv Sh.str al2]), some (Row.box m3 [AV.str sum])] else none else none else none else bif decide (((↑all.length : Int) - IntKind.i64.wrap ((↑j : Int) + (1 : Int))).toNat < ((↑all.length : Int) - (↑j : Int)).toNat) then bif cnt (↑all.length : Int) (IntKind.i64.wrap ((↑j : Int) + (1 : Int))) all.length && all.all shW && (al2.all shW && small kk.length && decide (all.length = al2.length ∧ al2.length ≤ (99 : Nat))) then k (Ex.exit (0 : Nat)) [AV.ptr (4 : Nat) (0 : Nat), AV.ptr (450 : Nat) (0 : Nat), AV.bool (ckR false all al2 kk sum (IntKind.i64.wrap ((↑j : Int) + (1 : Int)))), AV.fn (67 : Nat) [AV.ptr (450 : Nat) (0 : Nat), AV.ptr (1 : Nat) (0 : Nat), AV.ptr (517 : Nat) (0 : Nat)], AV.slv Sh.str all, AV.int IntKind.i64 (↑all.length : Int), AV.int IntKind.i64 (↑all.length : Int)] [some (Row.box m1 [AV.slv (Sh.agg [Sh.str, Sh.int IntKind.u64]) kk]), some (Row.box false [AV.int IntKind.i64 (0 : Int), AV.int IntKind.i64 (0 : Int)]), some (Row.box m2 [AV.slv Sh.str al2]), some (Row.box m3 [AV.str sum])] else none else none else none else k (Ex.exit (0 : Nat)) [AV.ptr (4 : Nat) (0 : Nat), AV.ptr (450 : Nat) (0 : Nat), AV.bool b, AV.fn (67 : Nat) [AV.ptr (450 : Nat) (0 : Nat), AV.ptr (1 : Nat) (0 : Nat), AV.ptr (517 : Nat) (0 : Nat)], AV.slv Sh.str all, AV.int IntKind.i64 (↑all.length : Int), AV.int IntKind.i64 (↑j : Int)] [some (Row.box m1 [AV.slv (Sh.agg [Sh.str, Sh.int IntKind.u64]) kk]), some (Row.box false [AV.int IntKind.i64 (0 : Int), AV.int IntKind.i64 (0 : Int)]), some (Row.box m2 [AV.slv Sh.str al2]), some (Row.box m3 [AV.str sum])]) (by kernel_rfl) ?_
    rw [← hk]
    obtain ⟨hl1, hl2⟩ := of_decide_eq_true hl
    by_cases hlt : j < all.length
    · obtain ⟨e1, e2, e3, e4, e5⟩ := cnt_facts hlt hs
      have hw : shW (all.getD j .unk) = true := all_getD (P := shW) ha hlt
      unfold shW at hw
      simp only [Bool.and_eq_true, decide_eq_true_eq] at hw
      have t1 : ((j : Int) + 1).toNat = j + 1 := by omega
      have hjn := join_drop (i := j + 1) (shW_strL ha2)
      have hjm : al2.length * (4000 + 1) ≤ 99 * 4001 := Nat.mul_le_mul hl2 (Nat.le_refl _)
      have g1 : decide (0 ≤ (j : Int) ∧ (j : Int) < (al2.length : Int) ∧ al2.length ≤ 99 ∧ (sE (all.getD j .unk)).length ≤ 100000) = true := decide_eq_true ⟨by omega, by omega, hl2, by omega⟩
      have g2 : decide ((Lib.join (strL (al2.drop (j + 1))) [10]).length ≤ 1000000) = true := decide_eq_true (by omega)
      have hR : ∀ c, ckR c all al2 kk sum (j : Int) = ckR (c && ckB j (sE (all.getD j .unk)) al2 kk sum) all al2 kk sum ((j + 1 : Nat) : Int) := fun c => by
        unfold ckR
        simp only [Int.toNat_natCast]
        rw [show all.length - j = (all.length - (j + 1)) + 1 from by omega, ckA_succ, Bool.and_assoc]
      rw [hR b]
      simp only [e1, e2, e3, e4, e5, t1, g1, g2, ha, ha2, hkk, hl, cond_true, Bool.and_true]
      cases b <;> rfl
    · obtain rfl : j = all.length := by omega
      have hR : ∀ c, ckR c all al2 kk sum ((all.length : Nat) : Int) = c := fun c => by
        unfold ckR
        rw [Int.toNat_natCast, Nat.sub_self]
        exact Bool.and_true _
      rw [decide_eq_false (by omega), hR b]
      rfl
  · cases h
def chC (es bs kk : List AV) : Int := bif !(vdC es bs == 0) then vdC es bs else kyC kk
def chI (es bs kk : List AV) : Int := bif !(vdC es bs == 0) then vdI es bs else kyI kk
def chN (es bs kk : List AV) : Int := bif chC es bs kk == 0 then ((pkF cuF es).length : Nat) else 0
def chR (es bs kk : List AV) : Bool := ckA (pkF cuF es) (pkF cuF es) kk (hexS (sumF 0 (cbB bs))) (pkF cuF es).length 0 || ((pkF cuF es).length : Int) == 0
def chB (es bs kk : List AV) : Bool := bif chC es bs kk == 0 then chR es bs kk else false
def F35 : List AV → Tr AV
  | [.agg [.slv (.agg [.str, .str]) es, .slv (.int .u8) bs], .slv (.agg [.str, .int .u64]) kk] => .gd ((small es.length && es.all okF) && ((bs.all bE && decide (bs.length ≤ 141000000000000)) && (small kk.length && kk.all okK))) (.leaf (.tup [.int .i64 (chN es bs kk), .bool (chB es bs kk), .agg [.int .i64 (chC es bs kk), .int .i64 (chI es bs kk)]]))
  | _ => .no
theorem kyI0 {kk : List AV} (h : (kyC kk == 0) = true) : kyI kk = 0 := by
  unfold kyC at h
  unfold kyI
  cases h1 : decide ((kk.length : Int) > 60)
  · rw [h1] at h
    cases h2 : (findN (kbE kk) kk.length 0).isSome
    · rfl
    · rw [h2] at h; cases h
  · rw [h1] at h; cases h
theorem pk_shW (n : List UInt8) {es : List AV} (hv : es.all okV = true) : (pkF n es).all shW = true := List.all_eq_true.2 fun e he => by
  unfold pkF at he
  obtain ⟨f, hf, rfl⟩ := List.mem_map.1 he
  have hov := List.all_eq_true.1 hv f (List.mem_filter.1 hf).1
  have h2 : (fN f).length ≤ 60 ∧ (fV f).length ≤ 4000 := of_decide_eq_true hov
  exact and_t rfl (decide_eq_true h2.2)
theorem ok35 : SumOK Tryz.prog 35 (ofT F35) ∧ SNat (ofT F35) := by
  refine fn1 (K := [(11, l35)]) (b := b35) (l := l35) g35 Tryz.func35 (by kernel_rfl) (by kernel_rfl) loop35 fun ρ avs k r h => ?_
  unfold F35 at h
  split at h
  · rename_i es bs kk
    obtain ⟨hc, hk⟩ := gd_some h
    simp only [Bool.and_eq_true] at hc
    obtain ⟨⟨hs, hall⟩, ⟨hb, hbl⟩, hkk, hka⟩ := hc
    refine Eq.trans (b := bif small es.length && (es.all okF && decide (bs.length ≤ (141000000000000 : Nat))) then bif vdC es bs != (0 : Int) then k (AV.tup [AV.int IntKind.i64 (0 : Int), AV.bool false, AV.agg [AV.int IntKind.i64 (vdC es bs), AV.int IntKind.i64 (vdI es bs)]]) else bif small kk.length && kk.all okK then bif kyC kk != (0 : Int) then k (AV.tup [AV.int IntKind.i64 (0 : Int), AV.bool false, AV.agg [AV.int IntKind.i64 (kyC kk), AV.int IntKind.i64 (kyI kk)]]) else bif es.all okF && decide (es.length ≤ (1000000 : Nat)) then bif bs.all bE then bif cnt (↑(pkF cuF es).length : Int) (0 : Int) (pkF cuF es).length && (pkF cuF es).all shW && ((pkF cuF es).all shW && small kk.length && decide ((pkF cuF es).length = (pkF cuF es).length ∧ (pkF cuF es).length ≤ (99 : Nat))) then bif ckR (cbC bs == (0 : Int)) (pkF cuF es) (pkF cuF es) kk (hexS (sumF (0 : Int) (cbB bs))) (0 : Int) then k (AV.tup [AV.int IntKind.i64 (↑(pkF cuF es).length : Int), AV.bool true, AV.agg [AV.int IntKind.i64 (0 : Int), AV.int IntKind.i64 (0 : Int)]]) else k (AV.tup [AV.int IntKind.i64 (↑(pkF cuF es).length : Int), AV.bool ((↑(pkF cuF es).length : Int) == (0 : Int)), AV.agg [AV.int IntKind.i64 (0 : Int), AV.int IntKind.i64 (0 : Int)]]) else none else none else none else none else none) (by kernel_rfl) ?_
    rw [← hk]
    refine Eq.trans (cond_t (and_t hs (and_t hall hbl))) ?_
    unfold chN chB chI
    unfold chC
    cases h1 : vdC es bs == 0
    · simp only [bne, h1, Bool.not_false, cond_true, cond_false]
      rfl
    simp only [bne, h1, Bool.not_true, cond_false]
    refine Eq.trans (cond_t (and_t hkk hka)) ?_
    cases h2 : kyC kk == 0
    · rfl
    have h60 := hv_len (vd_hv h1)
    have hv := hv_ok (vd_hv h1)
    have hk0 : kyC kk = 0 := by simpa using h2
    have hpl := pkF_len cuF es
    have hps := pk_shW cuF hv
    have hR : ckR true (pkF cuF es) (pkF cuF es) kk (hexS (sumF 0 (cbB bs))) 0 = ckA (pkF cuF es) (pkF cuF es) kk (hexS (sumF 0 (cbB bs))) (pkF cuF es).length 0 := by
      unfold ckR
      exact Bool.true_and _
    rw [(cbZ h1).1, hR, kyI0 h2, hk0]
    refine Eq.trans (cond_f rfl) (Eq.trans (cond_t (and_t hall (decide_eq_true (by omega)))) (Eq.trans (cond_t hb) (Eq.trans (cond_t (and_t (and_t (cnt_zero (small_t (by omega))) hps) (and_t (and_t hps hkk) (decide_eq_true ⟨by first | trivial | rfl, by omega⟩)))) ?_)))
    unfold chR
    cases ckA (pkF cuF es) (pkF cuF es) kk (hexS (sumF 0 (cbB bs))) (pkF cuF es).length 0 <;> rfl
  · cases h
noncomputable def G33 : Env := { pure := [(32, ofT F32), (35, ofT F35), (40, evF Tryz.prog GC [] Tryz.f40)], fork := true }
theorem g33 : GOK Tryz.prog G33 := GOK.flags (GOK.also (GOK.also (GOK.also g0 (inl gc Tryz.func40 (by kernel_rfl))) ok35) ok32)
theorem ok33 : SumOK Tryz.prog 33 (ofT F16) ∧ SNat (ofT F16) := by
  refine fn0 g33 Tryz.func33 (by kernel_rfl) fun ρ avs k r h => ?_
  unfold F16 at h
  split at h
  · refine Eq.trans (b := k (.bool true)) (by kernel_rfl) h
  · cases h
end Go.Proofs.YthdhfmdhjanoaaaGreatDoor

namespace Go.Proofs.YthdhfmdhjanoaaaGreatDoor
open Go.Ev
theorem hexB_hx (n : Int) : hexB (hexS n) = true := by
  unfold hexB
  rw [hexS_len, allN_all]
  refine and_t rfl (List.all_eq_true.2 fun b hb => ?_)
  have := digs_mem hb
  unfold hxI inR
  simp only [Bool.or_eq_true, Bool.and_eq_true, decide_eq_true_eq]
  omega
theorem pre_back {e p : List UInt8} (h : Lib.hasPrefix e p = true) : e = p ++ Lib.trimPrefix e p := by
  obtain ⟨t, rfl⟩ := List.isPrefixOf_iff_prefix.1 h
  rw [trim_pre]
theorem go_back : ∀ (l2 l1 : List UInt8) (ss : List (List UInt8)) (pre : List AV), ss.length = l2.length → (goG (pfx (l1 ++ l2)) l1.length pre (ss.map AV.str)).1 = true →
    ∃ xs, xs.length = l2.length ∧ ss = prs l2 xs ∧ (goG (pfx (l1 ++ l2)) l1.length pre (ss.map AV.str)).2.2 = pre ++ xs.map AV.str
  | [], l1, [], pre, _, _ => ⟨[], rfl, rfl, (List.append_nil _).symm⟩
  | c :: l2, l1, s :: ss, pre, hl, h => by
    have hp := pfx_at l1 l2 c
    have hg : goG (pfx (l1 ++ c :: l2)) l1.length pre ((s :: ss).map AV.str) = bif Lib.hasPrefix s [c, 61] then goG (pfx (l1 ++ c :: l2)) (l1.length + 1) (pre ++ [.str (Lib.trimPrefix s [c, 61])]) (ss.map AV.str) else (false, (l1.length : Int), pre ++ (s :: ss).map AV.str) := by
      rw [← hp]
      rfl
    rw [hg] at h ⊢
    cases hh : Lib.hasPrefix s [c, 61]
    · rw [hh] at h; cases h
    · rw [hh, cond_true] at h
      have ih := go_back l2 (l1 ++ [c]) ss (pre ++ [.str (Lib.trimPrefix s [c, 61])]) (by simpa using hl)
      rw [List.append_assoc, List.length_append, List.singleton_append] at ih
      obtain ⟨xs, h1, h2, h3⟩ := ih h
      refine ⟨Lib.trimPrefix s [c, 61] :: xs, by rw [List.length_cons, List.length_cons, h1], ?_, ?_⟩
      · show s :: ss = ([c, 61] ++ Lib.trimPrefix s [c, 61]) :: prs l2 xs
        rw [← pre_back hh, ← h2]
      · rw [cond_true]
        refine h3.trans ?_
        rw [List.append_assoc]
        rfl
theorem vs_back {l v : List UInt8} (h : vsB (pfx l) l.length v = true) : ∃ xs, xs.length = l.length ∧ v = Lib.join (prs l xs) [59, 32] ∧ vsL (pfx l) l.length v = xs.map AV.str := by
  have hL : vsL (pfx l) l.length v = goL (pfx l) 0 ((Lib.split v [59, 32]).map AV.str) := by
    unfold vsL
    rw [h]; rfl
  unfold vsB at h
  rw [Bool.and_eq_true] at h
  have h1 : (Lib.split v [59, 32]).length = l.length := by
    have := eq_of_beq h.1
    rw [List.length_map] at this
    omega
  obtain ⟨xs, a, b, c⟩ := go_back l [] (Lib.split v [59, 32]) [] h1 h.2
  refine ⟨xs, a, ?_, ?_⟩
  · rw [← b]
    exact (join_split (by decide) v.length v (Nat.le_refl _)).symm
  · rw [hL]
    exact c
theorem cu_back {v : List UInt8} (h : vsB (pfx l5) l5.length v = true) : v = cuFr (q5 v 0) (q5 v 1) (q5 v 2) (q5 v 3) ++ q5 v 4 := by
  obtain ⟨xs, a, b, c⟩ := vs_back h
  match xs, a with
  | [x0, x1, x2, x3, x4], _ =>
    have hq : ∀ i, q5 v i = sE (([x0, x1, x2, x3, x4].map AV.str).getD i .unk) := fun i => by
      unfold q5 vs5
      rw [c]
    have e0 : q5 v 0 = x0 := hq 0
    have e1 : q5 v 1 = x1 := hq 1
    have e2 : q5 v 2 = x2 := hq 2
    have e3 : q5 v 3 = x3 := hq 3
    have e4 : q5 v 4 = x4 := hq 4
    rw [e0, e1, e2, e3, e4]
    refine b.trans ?_
    unfold l5 prs prs prs prs prs prs cuFr
    rw [join_cons2 _ (by simp), join_cons2 _ (by simp), join_cons2 _ (by simp), join_cons2 _ (by simp), Lib.join_one]
    simp only [List.append_assoc, List.cons_append, List.nil_append]
def dgI (n : Int) : Bool := inR n 48 57
def soN (n : List UInt8) : Bool := !((n.length : Int) == 0) && (!decide ((n.length : Int) > 9) && (!(atI n 0 == 48) && allN dgI n))
def soL (v : List UInt8) : List AV := bif vsB (pfx l5) l5.length v && soN (q5 v 0) then vs5 v else []
def soB (v : List UInt8) : Bool := (vsB (pfx l5) l5.length v && soN (q5 v 0)) && (hexB (q5 v 3) && (hexB (q5 v 4) && (nmS (q5 v 1) && nmS (q5 v 2))))
theorem soN_dig {n : Nat} (h0 : 0 < n) (h : n < 100) : soN (dig n) = true := by
  have key : ∀ n, n < 100 → n = 0 ∨ (!(((dig n).length : Int) == 0) && (!decide (((dig n).length : Int) > 9) && (!(atI (dig n) 0 == 48) && ((dig n).all fun b => dgI (b.toNat : Nat))))) = true := by decide +kernel
  unfold soN
  rw [allN_all]
  rcases key n h with h | h
  · omega
  · exact h
def srB (v : List UInt8) (be kk : List AV) (n : Nat) : Bool := soB v && (q5 v 0 == dig n && (keyB kk (q5 v 1) && q5 v 4 == hexS (sumF (keyV kk (q5 v 1)) (bytesAV (v.take (v.length - 16) ++ Lib.join (strL be) [10])))))
theorem hexB_len {s : List UInt8} (h : hexB s = true) : s.length = 16 := by
  unfold hexB at h
  rw [Bool.and_eq_true] at h
  have := eq_of_beq h.1
  omega
theorem take16 {v a b : List UInt8} (h : v = a ++ b) (hb : b.length = 16) : v.take (v.length - 16) = a := by
  subst h
  rw [List.length_append, hb, Nat.add_sub_cancel]
  exact List.take_left
theorem sr_ck {v : List UInt8} {be kk : List AV} {n : Nat} (h0 : 0 < n) (h : n < 100) : srB v be kk n = (vsB (pfx l5) l5.length v && (q5 v 0 == dig n && (nmS (q5 v 1) && (nmS (q5 v 2) && (hexB (q5 v 3) && (keyB kk (q5 v 1) && cuS (keyV kk (q5 v 1)) (q5 v 0) (q5 v 1) (q5 v 2) (q5 v 3) (Lib.join (strL be) [10]) == v)))))) := by
  refine Bool.eq_iff_iff.2 ?_
  unfold srB soB
  simp only [Bool.and_eq_true]
  constructor
  · rintro ⟨⟨⟨h1, _⟩, h3, h4, h5, h6⟩, h7, h8, h9⟩
    refine ⟨h1, h7, h5, h6, h3, h8, ?_⟩
    have hb := cu_back h1
    have h16 := hexB_len h4
    have ht : v.take (v.length - 16) = cuFr (q5 v 0) (q5 v 1) (q5 v 2) (q5 v 3) := take16 hb h16
    rw [ht] at h9
    have h9 := eq_of_beq h9
    unfold cuS
    rw [← h9]
    exact beq_iff_eq.2 hb.symm
  · rintro ⟨h1, h7, h5, h6, h3, h8, h9⟩
    have hb := cu_back h1
    have h9 := eq_of_beq h9
    unfold cuS at h9
    have h4 : hexS (sumF (keyV kk (q5 v 1)) (bytesAV (cuFr (q5 v 0) (q5 v 1) (q5 v 2) (q5 v 3) ++ Lib.join (strL be) [10]))) = q5 v 4 := List.append_cancel_left (h9.trans hb)
    have hx : hexB (q5 v 4) = true := by rw [← h4]; exact hexB_hx _
    have h16 := hexB_len hx
    have ht : v.take (v.length - 16) = cuFr (q5 v 0) (q5 v 1) (q5 v 2) (q5 v 3) := take16 hb h16
    refine ⟨⟨⟨h1, ?_⟩, h3, hx, h5, h6⟩, h7, h8, ?_⟩
    · rw [eq_of_beq h7]; exact soN_dig h0 h
    · rw [ht, ← h4]
      exact beq_self_eq_true _
def k5 : List AV := [.str [110, 61], .str [121, 61], .str [114, 61], .str [98, 61], .str [115, 61]]
def vk5 (v : List UInt8) : List AV := vsL (kfx k5) k5.length v
def r5 (v : List UInt8) (i : Nat) : List UInt8 := sE ((vk5 v).getD i .unk)
noncomputable def G37 : Env := { pure := [(58, ofT F58), (59, ofT F59), (19, ofT F19), (39, ofT F39)] }
theorem g37 : GOK Tryz.prog G37 := GOK.also (GOK.also (GOK.also (GOK.also g0 ok39) ok19) ok59) ok58
noncomputable def b37 : Code := ((Tryz.f37.body.map loopsOf).getD []).headD .skip
def L37 : List AV → List (Option Row) → Tr LOut
  | [.slz .str, .bool false, .slv .str l, .int .i64 i], [] =>
    .gd (cnt (sE (l.getD 0 .unk)).length i (sE (l.getD 0 .unk)).length && inb 0 l.length) (sT (fun i => !dgI (atI (sE (l.getD 0 .unk)) i)) (sE (l.getD 0 .unk)).length (fun q => .leaf (.ret, [.slz .str, .bool false, .slv .str l, .int .i64 (q : Nat)], [])) (.leaf (.exit 0, [.slz .str, .bool false, .slv .str l, .int .i64 (sE (l.getD 0 .unk)).length], [])) i.toNat)
  | _, _ => .no
def l37 : Ev.Loop := ⟨{ len := 87, slots := [2, 3, 4, 6] }, ofL L37⟩
def μ37 (vs : List AV) (_ : List (Option Row)) : Nat := match vs with
  | [_, _, .slv _ l, .int _ i] => (((sE (l.getD 0 .unk)).length : Int) - i).toNat
  | _ => 0
theorem loop37 : LoopOK Tryz.prog G37 [(5, l37)] b37 l37 := by
  refine loopT g37.natOK rfl (KOK.nil (by kernel_rfl)) μ37 (fun ρ vs rs k r h => ?_)
  unfold L37 at h
  split at h
  · rename_i l i
    obtain ⟨hc, hk⟩ := gd_some h
    rw [Bool.and_eq_true] at hc
    obtain ⟨hc, hl⟩ := hc
    obtain ⟨_, hs, j, rfl, hj⟩ := cnt_spec hc
    rw [Int.toNat_natCast] at hk
    refine Eq.trans (b := bif inb (0 : Int) l.length then bif decide ((↑j : Int) < (↑(sE (l.getD (0 : Nat) AV.unk)).length : Int)) then bif inb (0 : Int) l.length then bif inb (↑j : Int) (sE (l.getD (0 : Nat) AV.unk)).length then bif !inR (IntKind.i64.wrap (↑((sE (l.getD (0 : Nat) AV.unk)).getD j (0 : UInt8)).toNat : Int)) (48 : Int) (57 : Int) then k Ex.ret [AV.slz Sh.str, AV.bool false, AV.slv Sh.str l, AV.int IntKind.i64 (↑j : Int)] [] else bif decide (((↑(sE (l.getD (0 : Nat) AV.unk)).length : Int) - IntKind.i64.wrap ((↑j : Int) + (1 : Int))).toNat < ((↑(sE (l.getD (0 : Nat) AV.unk)).length : Int) - (↑j : Int)).toNat) then bif cnt (↑(sE (l.getD (0 : Nat) AV.unk)).length : Int) (IntKind.i64.wrap ((↑j : Int) + (1 : Int))) (sE (l.getD (0 : Nat) AV.unk)).length && inb (0 : Int) l.length then bif (findN (fun i => !dgI (atI (sE (l.getD (0 : Nat) AV.unk)) i)) (sE (l.getD (0 : Nat) AV.unk)).length (IntKind.i64.wrap ((↑j : Int) + (1 : Int))).toNat).isSome then k Ex.ret [AV.slz Sh.str, AV.bool false, AV.slv Sh.str l, AV.int IntKind.i64 (↑((findN (fun i => !dgI (atI (sE (l.getD (0 : Nat) AV.unk)) i)) (sE (l.getD (0 : Nat) AV.unk)).length (IntKind.i64.wrap ((↑j : Int) + (1 : Int))).toNat).getD (0 : Nat)) : Int)] [] else k (Ex.exit (0 : Nat)) [AV.slz Sh.str, AV.bool false, AV.slv Sh.str l, AV.int IntKind.i64 (↑(sE (l.getD (0 : Nat) AV.unk)).length : Int)] [] else none else none else none else none else k (Ex.exit (0 : Nat)) [AV.slz Sh.str, AV.bool false, AV.slv Sh.str l, AV.int IntKind.i64 (↑j : Int)] [] else none) (by kernel_rfl) ?_
    rw [← hk]
    by_cases hlt : j < (sE (l.getD 0 .unk)).length
    · obtain ⟨e1, e2, e3, e4, e5⟩ := cnt_facts hlt hs
      rw [sT_step _ _ _ _ _ hlt]
      have hb : ((sE (l.getD 0 .unk)).getD j 0).toNat < 256 := ((sE (l.getD 0 .unk)).getD j 0).toNat_lt
      have hw : IntKind.i64.wrap ((((sE (l.getD 0 .unk)).getD j (0 : UInt8)).toNat : Nat) : Int) = atI (sE (l.getD 0 .unk)) j := by unfold atI; exact wrap_small _ (by omega) (by omega)
      have hsm : dgI (atI (sE (l.getD 0 .unk)) j) = inR (atI (sE (l.getD 0 .unk)) j) 48 57 := rfl
      have h0 : (0 : Int).toNat = 0 := rfl
      simp only [h0, hl, hw, hsm, e1, e2, e3, e4, e5, cond_true, Bool.and_true, Int.toNat_natCast]
      cases inR (atI (sE (l.getD 0 .unk)) j) 48 57 <;> rfl
    · obtain rfl : j = (sE (l.getD 0 .unk)).length := by omega
      rw [decide_eq_false (by omega), sT_end]
      exact cond_t hl
  · cases h
def F37 : List AV → Tr AV
  | [.str v] => .gd (decide (v.length ≤ 100000)) (.leaf (.tup [.slv .str (soL v), .bool (soB v)]))
  | _ => .no
theorem ok37 : SumOK Tryz.prog 37 (ofT F37) ∧ SNat (ofT F37) := by
  refine fn1 (K := [(5, l37)]) (b := b37) (l := l37) g37 Tryz.func37 (by kernel_rfl) (by kernel_rfl) loop37 fun ρ avs k r h => ?_
  unfold F37 at h
  split at h
  · rename_i v
    obtain ⟨hc, hk⟩ := gd_some h
    have hv' := of_decide_eq_true hc
    refine Eq.trans (b := bif decide (v.length ≤ (1000000 : Nat)) && (([AV.str [(110 : UInt8), (61 : UInt8)], AV.str [(121 : UInt8), (61 : UInt8)], AV.str [(114 : UInt8), (61 : UInt8)], AV.str [(98 : UInt8), (61 : UInt8)], AV.str [(115 : UInt8), (61 : UInt8)]].all fun k => decide ((sE k).length = (2 : Nat))) && decide ([AV.str [(110 : UInt8), (61 : UInt8)], AV.str [(121 : UInt8), (61 : UInt8)], AV.str [(114 : UInt8), (61 : UInt8)], AV.str [(98 : UInt8), (61 : UInt8)], AV.str [(115 : UInt8), (61 : UInt8)]].length ≤ (100 : Nat))) then bif !vsB (kfx [AV.str [(110 : UInt8), (61 : UInt8)], AV.str [(121 : UInt8), (61 : UInt8)], AV.str [(114 : UInt8), (61 : UInt8)], AV.str [(98 : UInt8), (61 : UInt8)], AV.str [(115 : UInt8), (61 : UInt8)]]) [AV.str [(110 : UInt8), (61 : UInt8)], AV.str [(121 : UInt8), (61 : UInt8)], AV.str [(114 : UInt8), (61 : UInt8)], AV.str [(98 : UInt8), (61 : UInt8)], AV.str [(115 : UInt8), (61 : UInt8)]].length v then k (AV.tup [AV.slv Sh.str [], AV.bool false]) else bif inb (0 : Int) (vk5 v).length then bif (↑(r5 v 0).length : Int) == (0 : Int) then k (AV.tup [AV.slv Sh.str [], AV.bool false]) else bif inb (0 : Int) (vk5 v).length then bif decide ((↑(r5 v 0).length : Int) > (9 : Int)) then k (AV.tup [AV.slv Sh.str [], AV.bool false]) else bif inb (0 : Int) (vk5 v).length then bif inb (0 : Int) (r5 v 0).length then bif (↑((r5 v 0).getD (0 : Nat) (0 : UInt8)).toNat : Int) == (48 : Int) then k (AV.tup [AV.slv Sh.str [], AV.bool false]) else bif cnt (↑(r5 v 0).length : Int) (0 : Int) (r5 v 0).length && inb (0 : Int) (vk5 v).length then bif (findN (fun i => !dgI (atI (r5 v 0) i)) (r5 v 0).length (0 : Nat)).isSome then k (AV.tup [AV.slv Sh.str [], AV.bool false]) else bif inb (3 : Int) (vk5 v).length then bif small (r5 v 3).length then bif inb (4 : Int) (vk5 v).length then bif small (r5 v 4).length then bif hexB (r5 v 3) then bif hexB (r5 v 4) then bif inb (1 : Int) (vk5 v).length then bif small (r5 v 1).length then bif nmS (r5 v 1) then bif inb (2 : Int) (vk5 v).length then bif small (r5 v 2).length then k (AV.tup [AV.slv Sh.str (vk5 v), AV.bool (nmS (r5 v 2))]) else none else none else k (AV.tup [AV.slv Sh.str (vk5 v), AV.bool false]) else none else none else k (AV.tup [AV.slv Sh.str (vk5 v), AV.bool false]) else k (AV.tup [AV.slv Sh.str (vk5 v), AV.bool false]) else none else none else none else none else none else none else none else none else none else none) (by kernel_rfl) ?_
    rw [← hk]
    unfold soL soB
    refine Eq.trans (cond_t (and_t (decide_eq_true (by omega)) rfl)) ?_
    have hcg := vs_congr (p := kfx k5) (q := pfx l5) (m := l5.length) (by decide) v
    have hB : vsB (kfx [AV.str [110, 61], AV.str [121, 61], AV.str [114, 61], AV.str [98, 61], AV.str [115, 61]]) [AV.str [110, 61], AV.str [121, 61], AV.str [114, 61], AV.str [98, 61], AV.str [115, 61]].length v = vsB (pfx l5) l5.length v := hcg.1
    have hL : vk5 v = vs5 v := hcg.2
    have hr : ∀ i, r5 v i = q5 v i := fun i => by unfold r5 q5; rw [hL]
    simp only [hB, hL, hr]
    cases h1 : vsB (pfx l5) l5.length v
    · rfl
    obtain ⟨i0, n0⟩ := q5_len v 0 h1 (by decide)
    obtain ⟨i1, n1⟩ := q5_len v 1 h1 (by decide)
    obtain ⟨i2, n2⟩ := q5_len v 2 h1 (by decide)
    obtain ⟨i3, n3⟩ := q5_len v 3 h1 (by decide)
    obtain ⟨i4, n4⟩ := q5_len v 4 h1 (by decide)
    have j0 : inb 0 (vs5 v).length = true := inb_true (by omega) (by omega)
    have j1 : inb 1 (vs5 v).length = true := inb_true (by omega) (by omega)
    have j2 : inb 2 (vs5 v).length = true := inb_true (by omega) (by omega)
    have j3 : inb 3 (vs5 v).length = true := inb_true (by omega) (by omega)
    have j4 : inb 4 (vs5 v).length = true := inb_true (by omega) (by omega)
    unfold soN
    refine Eq.trans (cond_f rfl) (Eq.trans (cond_t j0) ?_)
    cases h2 : (((q5 v 0).length : Int) == 0)
    rotate_left
    · rfl
    have h2' : ¬ ((q5 v 0).length : Int) = 0 := by simpa using h2
    refine Eq.trans (cond_f rfl) (Eq.trans (cond_t j0) ?_)
    cases h3 : decide (((q5 v 0).length : Int) > 9)
    rotate_left
    · rfl
    refine Eq.trans (cond_f rfl) (Eq.trans (cond_t j0) (Eq.trans (cond_t (inb_true (by omega) (by omega))) ?_))
    have h0 : ((((q5 v 0).getD 0 (0 : UInt8)).toNat : Nat) : Int) = atI (q5 v 0) 0 := rfl
    rw [h0]
    cases h4 : atI (q5 v 0) 0 == 48
    rotate_left
    · rfl
    refine Eq.trans (cond_f rfl) (Eq.trans (cond_t (and_t (cnt_zero (small_t (by omega))) j0)) ?_)
    unfold allN
    cases (findN (fun i => !dgI (atI (q5 v 0) i)) (q5 v 0).length 0).isSome
    rotate_left
    · rfl
    refine Eq.trans (cond_f rfl) (Eq.trans (cond_t j3) (Eq.trans (cond_t (small_t (by omega))) (Eq.trans (cond_t j4) (Eq.trans (cond_t (small_t (by omega))) ?_))))
    cases hexB (q5 v 3)
    · rfl
    cases hexB (q5 v 4)
    · rfl
    refine Eq.trans (cond_t rfl) (Eq.trans (cond_t rfl) (Eq.trans (cond_t j1) (Eq.trans (cond_t (small_t (by omega))) ?_)))
    cases nmS (q5 v 1)
    · rfl
    refine Eq.trans (cond_t rfl) (Eq.trans (cond_t j2) (Eq.trans (cond_t (small_t (by omega))) ?_))
    cases nmS (q5 v 2) <;> rfl
  · cases h
def srL (l kk : List AV) : Bool := srB (sE (l.getD 0 .unk)) (l.drop 1) kk l.length
theorem shW_sL {l : List AV} (h : l.all shW = true) : strL l = sL l := by
  unfold strL sL
  refine List.map_congr_left fun e he => ?_
  have := List.all_eq_true.1 h e he
  unfold shW isS at this
  cases e <;> simp at this
  rfl
theorem all_drop {P : AV → Bool} {l : List AV} (n : Nat) (h : l.all P = true) : (l.drop n).all P = true := List.all_eq_true.2 fun e he => List.all_eq_true.1 h e (List.mem_of_mem_drop he)
noncomputable def G36 : Env := { pure := [(37, ofT F37), (66, ofT F66), (30, ofT F70), (55, ofT F55), (15, ofT F14), (38, ofT F38)], conv := true }
theorem g36 : GOK Tryz.prog G36 := GOK.flags (GOK.also (GOK.also (GOK.also (GOK.also (GOK.also (GOK.also g0 ok38) ok15) ok55) ok30) ok66) ok37)
def F36 : List AV → Tr AV
  | [.slv .str l, .slv (.agg [.str, .int .u64]) kk] => .gd (decide (0 < l.length ∧ l.length ≤ 99) && (l.all shW && small kk.length)) (.leaf (.bool (srL l kk)))
  | _ => .no
theorem ok36 : SumOK Tryz.prog 36 (ofT F36) ∧ SNat (ofT F36) := by
  refine fn0 g36 Tryz.func36 (by kernel_rfl) fun ρ avs k r h => ?_
  unfold F36 at h
  split at h
  · rename_i l kk
    obtain ⟨hc, hk⟩ := gd_some h
    refine Eq.trans (b := bif inb (0 : Int) l.length then bif decide ((sE (l.getD (0 : Nat) AV.unk)).length ≤ (100000 : Nat)) then bif !soB (sE (l.getD (0 : Nat) AV.unk)) then k (AV.bool false) else bif inb (0 : Int) (soL (sE (l.getD (0 : Nat) AV.unk))).length then bif inR (↑l.length : Int) (0 : Int) (99 : Int) then bif !(sE ((soL (sE (l.getD (0 : Nat) AV.unk))).getD (0 : Nat) AV.unk)) == dig (↑l.length : Int).toNat then k (AV.bool false) else bif inb (1 : Int) (soL (sE (l.getD (0 : Nat) AV.unk))).length then bif small kk.length then bif inb (0 : Int) l.length then bif inb (0 : Int) l.length then bif slb (0 : Int) (IntKind.i64.wrap ((↑(sE (l.getD (0 : Nat) AV.unk)).length : Int) - (16 : Int))) (sE (l.getD (0 : Nat) AV.unk)).length then bif keyB kk (sE ((soL (sE (l.getD (0 : Nat) AV.unk))).getD (Int.toNat (1 : Int)) AV.unk)) then bif inb (4 : Int) (soL (sE (l.getD (0 : Nat) AV.unk))).length then bif slb (1 : Int) (↑l.length : Int) l.length then bif small (List.take ((↑l.length : Int).toNat - Int.toNat (1 : Int)) (List.drop (Int.toNat (1 : Int)) l)).length && decide ((Lib.join (sL (List.take ((↑l.length : Int).toNat - Int.toNat (1 : Int)) (List.drop (Int.toNat (1 : Int)) l))) ([10] : List UInt8)).length ≤ (1000000000000 : Nat)) then bif lenB ((List.take ((IntKind.i64.wrap ((↑(sE (l.getD (0 : Nat) AV.unk)).length : Int) - (16 : Int))).toNat - Int.toNat (0 : Int)) (List.drop (0 : Nat) (sE (l.getD (0 : Nat) AV.unk)))).length + (Lib.join (sL (List.take ((↑l.length : Int).toNat - Int.toNat (1 : Int)) (List.drop (Int.toNat (1 : Int)) l))) ([10] : List UInt8)).length) then bif lenB (List.take ((IntKind.i64.wrap ((↑(sE (l.getD (0 : Nat) AV.unk)).length : Int) - (16 : Int))).toNat - Int.toNat (0 : Int)) (List.drop (0 : Nat) (sE (l.getD (0 : Nat) AV.unk))) ++ Lib.join (sL (List.take ((↑l.length : Int).toNat - Int.toNat (1 : Int)) (List.drop (Int.toNat (1 : Int)) l))) ([10] : List UInt8)).length then bif small (bytesAV (List.take ((IntKind.i64.wrap ((↑(sE (l.getD (0 : Nat) AV.unk)).length : Int) - (16 : Int))).toNat - Int.toNat (0 : Int)) (List.drop (0 : Nat) (sE (l.getD (0 : Nat) AV.unk))) ++ Lib.join (sL (List.take ((↑l.length : Int).toNat - Int.toNat (1 : Int)) (List.drop (Int.toNat (1 : Int)) l))) ([10] : List UInt8))).length then bif uN (sumF (keyV kk (sE ((soL (sE (l.getD (0 : Nat) AV.unk))).getD (Int.toNat (1 : Int)) AV.unk))) (bytesAV (List.take ((IntKind.i64.wrap ((↑(sE (l.getD (0 : Nat) AV.unk)).length : Int) - (16 : Int))).toNat - Int.toNat (0 : Int)) (List.drop (0 : Nat) (sE (l.getD (0 : Nat) AV.unk))) ++ Lib.join (sL (List.take ((↑l.length : Int).toNat - Int.toNat (1 : Int)) (List.drop (Int.toNat (1 : Int)) l))) ([10] : List UInt8)))) then k (AV.bool ((sE ((soL (sE (l.getD (0 : Nat) AV.unk))).getD (Int.toNat (4 : Int)) AV.unk)) == hexS (sumF (keyV kk (sE ((soL (sE (l.getD (0 : Nat) AV.unk))).getD (Int.toNat (1 : Int)) AV.unk))) (bytesAV (List.take ((IntKind.i64.wrap ((↑(sE (l.getD (0 : Nat) AV.unk)).length : Int) - (16 : Int))).toNat - Int.toNat (0 : Int)) (List.drop (0 : Nat) (sE (l.getD (0 : Nat) AV.unk))) ++ Lib.join (sL (List.take ((↑l.length : Int).toNat - Int.toNat (1 : Int)) (List.drop (Int.toNat (1 : Int)) l))) ([10] : List UInt8)))))) else none else none else none else none else none else none else none else k (AV.bool false) else none else none else none else none else none else none else none else none else none) (by kernel_rfl) ?_
    rw [← hk]
    simp only [Bool.and_eq_true] at hc
    obtain ⟨hl, hall, hkk⟩ := hc
    obtain ⟨l0, l9⟩ := of_decide_eq_true hl
    have hi : inb 0 l.length = true := inb_true (by omega) (by omega)
    have hw : shW (l.getD 0 .unk) = true := all_getD (P := shW) hall l0
    unfold shW at hw
    simp only [Bool.and_eq_true, decide_eq_true_eq] at hw
    have hvl := hw.2
    have hjn := join_drop (i := 1) (shW_strL hall)
    have hjm : l.length * (4000 + 1) ≤ 99 * 4001 := Nat.mul_le_mul l9 (Nat.le_refl _)
    rw [shW_sL (all_drop 1 hall)] at hjn
    have hX4 : List.take ((l.length : Int).toNat - (1 : Int).toNat) (List.drop (1 : Int).toNat l) = l.drop 1 := List.take_of_length_le (by rw [List.length_drop]; exact Nat.le_refl _)
    rw [hX4]
    unfold srL srB
    rw [shW_sL (all_drop 1 hall)]
    have hdl : (l.drop 1).length ≤ 99 := by rw [List.length_drop]; omega
    generalize sE (l.getD 0 .unk) = v at hvl ⊢
    refine Eq.trans (cond_t hi) (Eq.trans (cond_t (decide_eq_true (by omega))) ?_)
    cases hs : soB v
    · rfl
    have hs' := hs
    unfold soB at hs'
    simp only [Bool.and_eq_true] at hs'
    obtain ⟨⟨h1, hn⟩, h3, h4, h5, h6⟩ := hs'
    have hL : soL v = vs5 v := by unfold soL; rw [h1, hn]; rfl
    have hq : ∀ i, sE ((vs5 v).getD i .unk) = q5 v i := fun i => rfl
    obtain ⟨i0, n0⟩ := q5_len v 0 h1 (by decide)
    obtain ⟨i1, n1⟩ := q5_len v 1 h1 (by decide)
    obtain ⟨i4, n4⟩ := q5_len v 4 h1 (by decide)
    have j0 : inb 0 (vs5 v).length = true := inb_true (by omega) (by omega)
    have j1 : inb 1 (vs5 v).length = true := inb_true (by omega) (by omega)
    have j4 : inb 4 (vs5 v).length = true := inb_true (by omega) (by omega)
    have h16 : 16 ≤ v.length := by have := hexB_len h4; omega
    have w : IntKind.i64.wrap ((v.length : Int) - 16) = (v.length : Int) - 16 := wrap_mid _ (by omega) (by omega)
    have hX3 : List.take (((v.length : Int) - 16).toNat - (0 : Int).toNat) (List.drop 0 v) = v.take (v.length - 16) := by
      rw [List.drop_zero, show ((v.length : Int) - 16).toNat - (0 : Int).toNat = v.length - 16 from by omega]
    have ht : (v.take (v.length - 16)).length ≤ 4000 := by rw [List.length_take]; omega
    have e1 : (1 : Int).toNat = 1 := rfl
    have e4 : (4 : Int).toNat = 4 := rfl
    simp only [hL, e1, e4, hq, w, hX3, Int.toNat_natCast]
    refine Eq.trans (cond_f rfl) (Eq.trans (cond_t j0) (Eq.trans (cond_t (inR_of (by omega) (by omega))) ?_))
    cases h7 : q5 v 0 == dig l.length
    · simp only [bne, h7, Bool.not_false, cond_true]; rfl
    simp only [bne, h7, Bool.not_true, cond_false]
    refine Eq.trans (cond_t j1) (Eq.trans (cond_t hkk) (Eq.trans (cond_t hi) (Eq.trans (cond_t hi) (Eq.trans (cond_t (slb_true (by omega) (by omega) (by omega))) ?_))))
    cases h8 : keyB kk (q5 v 1)
    · rfl
    refine Eq.trans (cond_t rfl) (Eq.trans (cond_t j4) (Eq.trans (cond_t (slb_true (by omega) (by omega) (Int.le_refl _))) (Eq.trans (cond_t (and_t (small_t (by omega)) (decide_eq_true (by omega)))) (Eq.trans (cond_t (lenB_t (by omega))) (Eq.trans (cond_t (lenB_t (by rw [List.length_append]; omega))) (Eq.trans (cond_t (small_t (by rw [bytesAV_length, List.length_append]; omega))) (Eq.trans (cond_t (uN_sum _ _)) ?_)))))))
    rfl
  · cases h
end Go.Proofs.YthdhfmdhjanoaaaGreatDoor
