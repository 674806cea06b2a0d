/-
  RatesKeepTheLimit: for every input the call returns true, and the arguments read as before. No condition.
-/
import Derived.Test.YthacpbjcgmbplaaRtL
import Derived.Test.YthacpbjcgmbplaaRtB
/-
  Rate limits in order; what Allow and Allowed return of them, without branches.
-/
namespace Go.Proofs.Ythacpbjcgmbplaa
open Go.Ev

theorem bltO : SO blt := ⟨blt_irrefl, blt_trans, blt_total⟩
structure GdU (m : Int) (us : List AV) : Prop where
  len : us.length ≤ 300
  all : ∀ u ∈ us, -68719476736 ≤ uA u ∧ uA u ≤ 68719476736 ∧ 1 ≤ uN u ∧ uN u ≤ m ∧ uE u = u
  srt : us.Pairwise fun a b => uA a ≤ uA b
structure Gd (m : Int) (ks : List AV) : Prop where
  len : ks.length ≤ 300
  key : ∀ e ∈ ks, nmB (kN e) = true ∧ GdU m (kU e) ∧ kE e = e
  srt : Srt kN blt ks
def Can (ks : List AV) : Prop := ∀ e ∈ ks, kE e = e ∧ ∀ u ∈ kU e, hasSh sU u = true
theorem Can.canK {ks : List AV} (h : Can ks) : canK ks = true := List.all_eq_true.2 fun e he => List.all_eq_true.2 fun u hu => (h e he).2 u hu
theorem getD_mem {es : List AV} {i : Nat} (h : i < es.length) : es.getD i .unk ∈ es := by rw [getD_eq h]; exact List.getElem_mem h
theorem useC2_zero {us : List AV} {m : Int} {i : Nat} (h : (useC2 us us m i != 0) = false) : (-68719476736 ≤ uA (us.getD i .unk) ∧ uA (us.getD i .unk) ≤ 68719476736) ∧ (1 ≤ uN (us.getD i .unk) ∧ uN (us.getD i .unk) ≤ m) ∧ (0 < i → uA (us.getD (i - 1) .unk) ≤ uA (us.getD i .unk)) := by
  unfold useC2 at h
  cases h1 : tmB (uA (us.getD i .unk))
  · rw [h1] at h; cases h
  · by_cases h2 : uN (us.getD i .unk) < 1
    · rw [h1, decide_eq_true h2] at h; cases h
    · by_cases h3 : uN (us.getD i .unk) > m
      · rw [h1, decide_eq_false h2, decide_eq_true h3] at h; cases h
      · refine ⟨inR_spec h1, ⟨by omega, by omega⟩, fun h0 => ?_⟩
        by_cases h4 : uA (us.getD i .unk) < uA (us.getD (i - 1) .unk)
        · rw [h1, decide_eq_false h2, decide_eq_false h3, decide_eq_true h0, decide_eq_true h4] at h; cases h
        · omega
theorem codeK2_order {ks : List AV} {m : Int} {i : Nat} (h : (codeK2 ks ks m i != 0) = false) (h0 : 0 < i) : blt (kN (ks.getD (i - 1) .unk)) (kN (ks.getD i .unk)) = true := by
  have hk := codeK_zero h
  unfold codeK2 at h
  rw [hk, cond_false, decide_eq_true h0, Bool.true_and] at h
  cases h1 : Op.bytesLess (kN (ks.getD i .unk)) (kN (ks.getD (i - 1) .unk))
  · cases h2 : kN (ks.getD i .unk) == kN (ks.getD (i - 1) .unk)
    · exact bltO.ge (a := kN (ks.getD i .unk)) h1 (by simpa using h2)
    · rw [h1, h2] at h; cases h
  · rw [h1] at h; cases h
theorem srt_step {us : List AV} (h : ∀ i, 0 < i → i < us.length → uA (us.getD (i - 1) .unk) ≤ uA (us.getD i .unk)) : us.Pairwise fun a b => uA a ≤ uA b := by
  have key : ∀ d i, i + d < us.length → uA (us.getD i .unk) ≤ uA (us.getD (i + d) .unk) := fun d => by
    induction d with
    | zero => intro i _; exact Int.le_refl _
    | succ d ih =>
      intro i hi
      have := ih i (by omega)
      have := h (i + (d + 1)) (by omega) hi
      rw [show i + (d + 1) - 1 = i + d from by omega] at this
      omega
  refine List.pairwise_iff_getElem.2 fun i j hi hj hij => ?_
  have := key (j - i) i (by omega)
  rw [show i + (j - i) = j from by omega, getD_eq hi, getD_eq hj] at this
  exact this
theorem gdU_of {us : List AV} {m : Int} {nm : List UInt8} (h : (keyC nm us m != 0) = false) (hc : ∀ u ∈ us, hasSh sU u = true) : nmB nm = true ∧ GdU m us := by
  obtain ⟨h1, h2, h3⟩ := keyC_zero h
  refine ⟨h1, h2, fun u hu => ?_, srt_step fun i h0 hi => (useC2_zero (h3 i hi)).2.2 h0⟩
  have hcan := canU (hc u hu)
  obtain ⟨i, hi, rfl⟩ := List.getElem_of_mem hu
  obtain ⟨⟨a, b⟩, ⟨c, d⟩, _⟩ := useC2_zero (h3 i hi)
  rw [getD_eq hi] at a b c d
  exact ⟨a, b, c, d, hcan⟩
theorem gd_of {w m : Int} {ks : List AV} (h : ((ratF w m ks).1 != 0) = false) (hc : Can ks) : (1 ≤ w ∧ w ≤ 1000000) ∧ (0 ≤ m ∧ m ≤ 1000000) ∧ Gd m ks := by
  obtain ⟨r1, r2, r3, r4⟩ := ratF_zero h
  refine ⟨inR_spec r1, inR_spec r2, r3, fun e he => ?_, ?_⟩
  · obtain ⟨i, hi, rfl⟩ := List.getElem_of_mem he
    have := codeK_zero (r4 i hi)
    rw [getD_eq hi] at this
    obtain ⟨a, b⟩ := gdU_of this (hc _ he).2
    exact ⟨a, b, (hc _ he).1⟩
  · refine srt_of_step bltO fun i hi => ?_
    have := codeK2_order (r4 (i + 1) hi) (by omega)
    rw [show i + 1 - 1 = i from by omega, getD_eq hi, getD_eq (by omega : i < ks.length)] at this
    exact this
theorem GdU.code {m : Int} {us : List AV} (h : GdU m us) {nm : List UInt8} (hn : nmB nm = true) : keyC nm us m = 0 := by
  have hb : badU us m = none := findN_of_none fun i _ hi => by
    obtain ⟨a, b, c, d, _⟩ := h.all _ (getD_mem hi)
    have ho : (decide (0 < i) && decide (uA (us.getD i .unk) < uA (us.getD (i - 1) .unk))) = false := by
      by_cases h0 : 0 < i
      · have := List.pairwise_iff_getElem.1 h.srt (i - 1) i (by omega) hi (by omega)
        rw [getD_eq hi, getD_eq (by omega : i - 1 < us.length), decide_eq_false (show ¬ uA us[i] < uA us[i - 1] by omega), Bool.and_false]
      · rw [decide_eq_false h0]; rfl
    unfold useC2
    rw [show tmB (uA (us.getD i .unk)) = true from inR_of a b, decide_eq_false (by omega), decide_eq_false (by omega), ho]
    rfl
  unfold keyC
  rw [hn, hb, decide_eq_false (by have := h.len; omega)]
  rfl
theorem Gd.rat {w m : Int} {ks : List AV} (h : Gd m ks) (hw : 1 ≤ w ∧ w ≤ 1000000) (hm : 0 ≤ m ∧ m ≤ 1000000) : ratF w m ks = (0, 0) := by
  have hb : badK ks m = none := findN_of_none fun i _ hi => by
    obtain ⟨a, b, c⟩ := h.key _ (getD_mem hi)
    have hk : keyC (kN (ks.getD i .unk)) (kU (ks.getD i .unk)) m = 0 := b.code a
    have ho : (decide (0 < i) && (Op.bytesLess (kN (ks.getD i .unk)) (kN (ks.getD (i - 1) .unk)) || kN (ks.getD i .unk) == kN (ks.getD (i - 1) .unk))) = false := by
      by_cases h0 : 0 < i
      · have := srt_get h.srt (i := i - 1) (j := i) (by omega) hi (by omega)
        rw [← getD_eq hi, ← getD_eq (by omega : i - 1 < ks.length)] at this
        have h1 : Op.bytesLess (kN (ks.getD i .unk)) (kN (ks.getD (i - 1) .unk)) = false := blt_asymm this
        have h2 := blt_ne this
        rw [h1, show (kN (ks.getD i .unk) == kN (ks.getD (i - 1) .unk)) = (kN (ks.getD (i - 1) .unk) == kN (ks.getD i .unk)) from Bool.beq_comm, h2, Bool.or_false, Bool.and_false]
      · rw [decide_eq_false h0]; rfl
    unfold codeK2
    rw [hk, ho]
    rfl
  unfold ratF
  rw [inR_of hw.1 hw.2, inR_of hm.1 hm.2, hb, decide_eq_false (by have := h.len; omega)]
  rfl
theorem find_look (s : List UInt8) (ks : List AV) : lk kN s ks = (fKey s ks).map fun q => ks.getD q .unk := by
  unfold fKey
  cases hf : findN (isN s ks) ks.length 0 with
  | none =>
    rw [Option.map_none, look_none]
    intro x hx
    obtain ⟨i, hi, rfl⟩ := List.getElem_of_mem hx
    have := findN_none hf i (Nat.zero_le _) hi
    unfold isN at this
    rw [getD_eq hi] at this
    simpa using this
  | some q =>
    obtain ⟨_, h2, h3, h4⟩ := findN_some hf
    unfold isN at h3 h4
    rw [Option.map_some, getD_eq h2]
    rw [getD_eq h2] at h3
    unfold lk
    rw [List.find?_eq_some_iff_getElem]
    refine ⟨by simpa using h3, q, h2, rfl, fun j hj => ?_⟩
    have := h4 j (Nat.zero_le _) hj
    rw [getD_eq (Nat.lt_trans hj h2)] at this
    simpa using this
theorem ltN_blt (s : List UInt8) (ks : List AV) (i : Nat) : ltN s ks i = blt (kN (ks.getD i .unk)) s := cmpS_neg _ _
theorem Gd.at {m : Int} {ks : List AV} (h : Gd m ks) (s : List UInt8) : atK s ks = posn kN blt s ks := by
  obtain ⟨p1, p2⟩ := posn_spec bltO h.srt s
  have hle := posn_le kN blt s ks
  refine bs_eq (m := ks.length) (fun a ha => ?_) (fun a ha hl => ?_) _ _ _ (Nat.zero_le _) hle (Nat.le_refl _) (by omega)
  · rw [ltN_blt, getD_eq (by omega)]; exact p1 a (by omega) ha
  · rw [ltN_blt, getD_eq hl]; exact p2 a hl ha
theorem Gd.is {m : Int} {ks : List AV} (h : Gd m ks) (s : List UInt8) : (fKey s ks = none ∧ isK s ks = false) ∨ (fKey s ks = some (atK s ks) ∧ isK s ks = true) := by
  unfold isK
  rw [h.at]
  unfold fKey
  cases hf : findN (isN s ks) ks.length 0 with
  | none =>
    refine .inl ⟨rfl, ?_⟩
    by_cases hl : posn kN blt s ks < ks.length
    · have := findN_none hf _ (Nat.zero_le _) hl
      unfold isN at this
      rw [this, Bool.and_false]
    · rw [decide_eq_false hl]; rfl
  | some q =>
    obtain ⟨_, h2, h3, _⟩ := findN_some hf
    unfold isN at h3
    have he : kN ks[q] = s := by rw [getD_eq h2] at h3; simpa using h3
    have := posn_found bltO h.srt h2 he
    rw [this, decide_eq_true h2, h3]
    exact .inr ⟨rfl, rfl⟩
theorem map_can {ks : List AV} (h : ∀ e ∈ ks, kE e = e) : ks.map kE = ks := by
  rw [List.map_congr_left h]
  simp
theorem Gd.can {m : Int} {ks : List AV} (h : Gd m ks) : ∀ e ∈ ks, kE e = e := fun e he => (h.key e he).2.2
theorem Gd.put {m : Int} {ks : List AV} (h : Gd m ks) {s : List UInt8} (hi : fKey s ks = some (atK s ks)) (us : List AV) : putKs ks (atK s ks) us = ins kN blt ks (keyV s us) := by
  obtain ⟨_, h2, h3, _⟩ := findN_some hi
  have hn : kN ks[atK s ks] = s := by unfold isN at h3; rw [getD_eq h2] at h3; simpa using h3
  rw [← ins_set bltO h.srt h2 (x := keyV s us) hn]
  unfold putKs
  rw [map_can fun e he => h.can e (List.mem_of_mem_take he), map_can fun e he => h.can e (List.mem_of_mem_drop he), getD_eq h2, hn, List.set_eq_take_append_cons_drop, if_pos h2]
  rfl
theorem Gd.insK {m : Int} {ks : List AV} (h : Gd m ks) {s : List UInt8} (hi : fKey s ks = none) (us : List AV) : insKs ks (atK s ks) s us = ins kN blt ks (keyV s us) := by
  have hx : ∀ y ∈ ks, kN y ≠ kN (keyV s us) := look_none.1 (by rw [find_look, show kN (keyV s us) = s from rfl, hi]; rfl)
  have := posn_ins bltO h.srt (x := keyV s us) hx
  unfold insKs
  rw [map_can h.can, h.at]
  exact this
theorem wI_true (s : List UInt8) (x : AV) : ∀ {es : List AV}, (∀ e ∈ es, kE e = e) → wI s x true es = (true, es.filter fun e => !(kN e == s))
  | [], _ => rfl
  | e :: r, h => by
    rw [wI_cons, show (true || wA s true e) = true from rfl, show wA s true e = false from rfl, wI_true s x (es := r) fun y hy => h y (by simp [hy]), h e (by simp)]
    cases h1 : kN e == s <;> simp [List.filter_cons, h1]
theorem wL_ins {ks : List AV} (h : Srt kN blt ks) (hc : ∀ e ∈ ks, kE e = e) (s : List UInt8) (us : List AV) : wL s us ks = ins kN blt ks (keyV s us) := by
  induction ks with
  | nil => rfl
  | cons e r ih =>
    have h' := List.pairwise_cons.1 h
    have ih := ih h'.2 fun y hy => hc y (by simp [hy])
    rw [ins_cons bltO h, ← ih, show kN (keyV s us) = s from rfl]
    have ht := wI_true s (keyV s us) (es := r) fun y hy => hc y (by simp [hy])
    unfold wL
    rw [wI_cons, hc e (by simp), show wA s false e = !Op.bytesLess (kN e) s from rfl]
    cases h1 : blt (kN e) s
    · have h1' : Op.bytesLess (kN e) s = false := h1
      have hr : ∀ y ∈ r, blt s (kN y) = true := fun y hy => by
        by_cases h6 : kN e = s
        · rw [← h6]; exact h'.1 y hy
        · exact blt_trans (bltO.ge h1 h6) (h'.1 y hy)
      have hf : r.filter (fun e => !(kN e == s)) = r := List.filter_eq_self.2 fun y hy => by
        have := blt_ne (hr y hy)
        rw [show (kN y == s) = (s == kN y) from Bool.beq_comm, this]; rfl
      rw [h1', show (false || !false) = true from rfl, ht, hf]
      cases h2 : blt s (kN e)
      · have := blt_total h1 h2
        rw [show (kN e == s) = true from by simp [this]]
        simp
      · have := blt_ne h2
        rw [show (kN e == s) = (s == kN e) from Bool.beq_comm, this]
        simp
    · have h1' : Op.bytesLess (kN e) s = true := h1
      rw [h1', blt_ne h1]
      rfl
theorem leftX_can {us : List AV} (h : ∀ u ∈ us, uE u = u) (now w : Int) : leftX now w us = leftU now w us := by
  unfold leftX leftU
  rw [List.map_congr_left (g := id) fun u hu => h u (List.mem_filter.1 hu).1]
  simp
theorem GdU.late {m : Int} {us : List AV} (h : GdU m us) (now : Int) : (findN (lateX now us) us.length 0).isSome = lateU us now := by
  unfold lateU
  cases hf : findN (lateX now us) us.length 0 with
  | none =>
    by_cases h0 : (us.length : Int) > 0
    · have := findN_none hf (us.length - 1) (Nat.zero_le _) (by omega)
      unfold lateX at this
      rw [this, Bool.and_false]
      rfl
    · rw [decide_eq_false h0]; rfl
  | some q =>
    obtain ⟨_, h2, h3, _⟩ := findN_some hf
    have h3 := of_decide_eq_true h3
    have hle : uA (us.getD q .unk) ≤ uA (us.getD (us.length - 1) .unk) := by
      by_cases hq : q = us.length - 1
      · rw [hq]; exact Int.le_refl _
      · rw [getD_eq h2, getD_eq (by omega : us.length - 1 < us.length)]
        exact List.pairwise_iff_getElem.1 h.srt q (us.length - 1) h2 (by omega) (by omega)
    rw [decide_eq_true (by omega), decide_eq_true (by omega)]
    rfl
end Go.Proofs.Ythacpbjcgmbplaa

/-
  What Allow and Allowed answer: the same.
-/
namespace Go.Proofs.Ythacpbjcgmbplaa
open Go.Ev

structure Ans where
  w : Int
  m : Int
  ks : List AV
  ok : Bool
  f : Int × Int
def Ans.v (a : Ans) : AV := .tup [ratV a.w a.m a.ks, .bool a.ok, fault a.f]
def err (f : Int × Int) : Ans := ⟨0, 0, [], false, f⟩
def ansOf : AV → Ans
  | .tup [.agg [.int _ w, .int _ m, .slv _ ks], .bool b, .agg [.int _ c, .int _ i]] => ⟨w, m, ks, b, (c, i)⟩
  | _ => err (0, 0)
theorem ansOf_v (a : Ans) : ansOf a.v = a := rfl
def posZ (s : List UInt8) (ks : List AV) : Int := match fKey s ks with
  | some q => (q : Nat)
  | none => -1
def coreP (w m : Int) (ks : List AV) (s : List UInt8) (us : List AV) (n now : Int) : Ans :=
  bif lateU us now then err (19, posZ s ks) else
  bif decide (sumU n (leftU now w us) > m) then ⟨w, m, ins kN blt ks (keyV s (leftU now w us)), false, (0, 0)⟩ else
  bif ((leftU now w us).length : Int) == 300 then err (2, posZ s ks) else
  ⟨w, m, ins kN blt ks (keyV s (leftU now w us ++ [useV now n])), true, (0, 0)⟩
def specP (w m : Int) (ks : List AV) (s : List UInt8) (n now : Int) : Ans :=
  bif (fKey s ks).isNone && ((ks.length : Int) == 300) then err (2, -1) else coreP w m ks s (usesO s ks) n now
def answP (w m : Int) (ks : List AV) (s : List UInt8) (n now : Int) : Ans :=
  bif (valF w m ks s n now).1 != 0 then err (valF w m ks s n now) else specP w m ks s n now
theorem allow_eq {w m : Int} {ks : List AV} (hc : Can ks) (s : List UInt8) (n now : Int) : allowV w m ks s n now = (answP w m ks s n now).v := by
  unfold allowV answP
  cases hv : (valF w m ks s n now).1 != 0
  · obtain ⟨v1, v2, v3, v4⟩ := valF_zero hv
    obtain ⟨_, _, G⟩ := gd_of v1 hc
    rw [cond_false, cond_false]
    unfold specP
    rcases G.is s with ⟨h1, h2⟩ | ⟨h1, h2⟩
    · rw [h2, cond_false]
      unfold allowB coreP usesO
      rw [G.insK h1, G.insK h1, h1]
      show (bif (ks.length : Int) == 300 then _ else bif decide (n > m) then _ else _) = Ans.v (bif (ks.length : Int) == 300 then _ else bif decide (n > m) then _ else _)
      cases (ks.length : Int) == 300
      · cases decide (n > m) <;> rfl
      · rfl
    · rw [h2, cond_true]
      rw [show usesO s ks = kU (ks.getD (atK s ks) .unk) from by unfold usesO; rw [h1]; rfl]
      unfold allowA coreP posZ
      rw [G.put h1, G.put h1, h1]
      show _ = Ans.v (bif lateU (kU (ks.getD (atK s ks) .unk)) now then _ else _)
      generalize kU (ks.getD (atK s ks) .unk) = us
      cases lateU us now
      · cases decide (sumU n (leftU now w us) > m)
        · cases ((leftU now w us).length : Int) == 300 <;> rfl
        · rfl
      · rfl
  · rfl
theorem doc_eq {w m : Int} {ks : List AV} (hc : Can ks) (s : List UInt8) (n now : Int) : docV w m ks s n now = (answP w m ks s n now).v := by
  unfold docV answP
  cases hv : (valF w m ks s n now).1 != 0
  · obtain ⟨v1, v2, v3, v4⟩ := valF_zero hv
    obtain ⟨_, _, G⟩ := gd_of v1 hc
    rw [cond_false, cond_false]
    unfold specP
    have hw := fun us => wL_ins G.srt G.can s us
    rcases G.is s with ⟨h1, h2⟩ | ⟨h1, h2⟩
    · unfold allowX coreP usesO
      rw [h1, hw, hw, hw, hw]
      show (bif (ks.length : Int) == 300 then _ else bif decide (n > m) then _ else _) = Ans.v (bif (ks.length : Int) == 300 then _ else bif decide (n > m) then _ else _)
      cases (ks.length : Int) == 300
      · cases decide (n > m) <;> rfl
      · rfl
    · obtain ⟨_, h3, _, _⟩ := findN_some h1
      have hg := (G.key _ (getD_mem h3)).2.1
      have hx := leftX_can (fun u hu => (hg.all u hu).2.2.2.2) now w
      have hl := hg.late now
      rw [show usesO s ks = kU (ks.getD (atK s ks) .unk) from by unfold usesO; rw [h1]; rfl, show usesX s ks = kU (ks.getD (atK s ks) .unk) from by unfold usesX; rw [h1]; rfl, h1]
      show allowX w m ks s ((atK s ks : Nat) : Int) (kU (ks.getD (atK s ks) .unk)) n now = (coreP w m ks s (kU (ks.getD (atK s ks) .unk)) n now).v
      unfold allowX coreP posZ
      rw [hx, hl, h1, hw, hw]
      show _ = Ans.v (bif lateU (kU (ks.getD (atK s ks) .unk)) now then _ else _)
      generalize kU (ks.getD (atK s ks) .unk) = us
      cases lateU us now
      · cases decide (sumU n (leftU now w us) > m)
        · cases ((leftU now w us).length : Int) == 300 <;> rfl
        · rfl
      · rfl
  · rfl
def allowP (w m : Int) (ks : List AV) (s : List UInt8) (n now : Int) : Ans := ansOf (allowV w m ks s n now)
def docP (w m : Int) (ks : List AV) (s : List UInt8) (n now : Int) : Ans := ansOf (docV w m ks s n now)
theorem allowP_eq {w m : Int} {ks : List AV} (hc : Can ks) (s : List UInt8) (n now : Int) : allowP w m ks s n now = answP w m ks s n now := by
  unfold allowP
  rw [allow_eq hc]
  rfl
theorem docP_eq {w m : Int} {ks : List AV} (hc : Can ks) (s : List UInt8) (n now : Int) : docP w m ks s n now = answP w m ks s n now := by
  unfold docP
  rw [doc_eq hc]
  rfl
theorem ans_cond {b : Bool} {x y : AV} (hx : x = (ansOf x).v) (hy : y = (ansOf y).v) : (bif b then x else y) = (ansOf (bif b then x else y)).v := by
  cases b
  · exact hy
  · exact hx
theorem allow_v (w m : Int) (ks : List AV) (s : List UInt8) (n now : Int) : allowV w m ks s n now = (allowP w m ks s n now).v := by
  unfold allowP allowV allowA allowB
  repeat (first | exact rfl | apply ans_cond)
theorem doc_v (w m : Int) (ks : List AV) (s : List UInt8) (n now : Int) : docV w m ks s n now = (docP w m ks s n now).v := by
  unfold docP docV allowX
  repeat (first | exact rfl | apply ans_cond)
def F7' : List AV → Tr AV
  | [.agg [.int .i64 w, .int .i64 m, .slv (.agg [.str, .slice (.agg [.int .i64, .int .i64])]) ks], .str s, .int .i64 n, .int .i64 now] => .gd (canK ks) (.leaf (allowP w m ks s n now).v)
  | _ => .no
def F8' : List AV → Tr AV
  | [.agg [.int .i64 w, .int .i64 m, .slv (.agg [.str, .slice (.agg [.int .i64, .int .i64])]) ks], .str s, .int .i64 n, .int .i64 now] => .leaf (docP w m ks s n now).v
  | _ => .no
theorem ok7' : SumOK Try.prog 7 (ofT F7') ∧ SNat (ofT F7') := by
  have : F7' = F7 := by
    funext avs
    unfold F7' F7
    simp only [allow_v]
    rfl
  rw [this]
  exact ok7
theorem ok8' : SumOK Try.prog 8 (ofT F8') ∧ SNat (ofT F8') := by
  have : F8' = F8 := by
    funext avs
    unfold F8' F8
    simp only [doc_v]
    rfl
  rw [this]
  exact ok8
noncomputable def GL : Env := { pure := [(7, ofT F7'), (8, ofT F8'), (9, ofT F9), (10, ofT F9), (11, ofT F11), (12, ofT F12), (13, ofT F13), (14, evF Try.prog G0 [] Try.f14)] }
theorem gl : GOK Try.prog GL := GOK.also (GOK.also (GOK.also (GOK.also (GOK.also (GOK.also (GOK.also (GOK.also g0 (inl g0 Try.func14 (by kernel_rfl))) ok13) ok12) ok11) ok10) ok9) ok8') ok7'
end Go.Proofs.Ythacpbjcgmbplaa

/-
  RatesMatchesSpec: for every input the call returns true, and the arguments read as before. No condition.
-/
namespace Go.Proofs.Ythacpbjcgmbplaa
open Go.Ev

def tot : List AV → Int
  | [] => 0
  | e :: r => uN e + tot r
theorem tot_append (a b : List AV) : tot (a ++ b) = tot a + tot b := by
  induction a with
  | nil => show tot b = 0 + tot b; omega
  | cons e r ih => show uN e + tot (r ++ b) = uN e + tot r + tot b; omega
theorem tot_nonneg : ∀ {us : List AV}, (∀ u ∈ us, 0 ≤ uN u) → 0 ≤ tot us
  | [], _ => Int.le_refl _
  | e :: r, h => by
    have := tot_nonneg (us := r) fun u hu => h u (by simp [hu])
    have := h e (by simp)
    show 0 ≤ uN e + tot r
    omega
theorem sumU_tot : ∀ {us : List AV} {n : Int}, (∀ u ∈ us, 0 ≤ uN u ∧ uN u ≤ 1000000) → 0 ≤ n → n + 1000000 * us.length ≤ 1000000000000 → sumU n us = n + tot us
  | [], n, _, _, _ => by show n = n + 0; omega
  | e :: r, n, h, h0, hl => by
    obtain ⟨a, b⟩ := h e (by simp)
    have hl' : (((e :: r).length : Nat) : Int) = r.length + 1 := by simp
    rw [hl'] at hl
    have hw : IntKind.i64.wrap (n + uN e) = n + uN e := wrap_mid _ (by omega) (by omega)
    have := sumU_tot (us := r) (n := n + uN e) (fun u hu => h u (by simp [hu])) (by omega) (by omega)
    show sumU (IntKind.i64.wrap (n + uN e)) r = n + (uN e + tot r)
    rw [hw, this]
    omega
theorem GdU.nil (m : Int) : GdU m [] := ⟨by simp, fun u hu => (by cases hu), List.Pairwise.nil⟩
theorem GdU.left {m : Int} {us : List AV} (h : GdU m us) (now w : Int) : GdU m (leftU now w us) :=
  ⟨Nat.le_trans (List.length_filter_le _ _) h.len, fun u hu => h.all u (List.mem_filter.1 hu).1, h.srt.filter _⟩
theorem GdU.before {m : Int} {us : List AV} (h : GdU m us) {now : Int} (hl : lateU us now = false) : ∀ u ∈ us, uA u ≤ now := fun u hu => by
  rw [← h.late] at hl
  cases hf : findN (lateX now us) us.length 0 with
  | some q => rw [hf] at hl; cases hl
  | none =>
    obtain ⟨i, hi, rfl⟩ := List.getElem_of_mem hu
    have := of_decide_eq_false (findN_none hf i (Nat.zero_le _) hi)
    rw [getD_eq hi] at this
    omega
theorem GdU.sum {m : Int} (hm : m ≤ 1000000) {us : List AV} (h : GdU m us) {n : Int} (hn : 0 ≤ n ∧ n ≤ 1000000) : sumU n us = n + tot us := by
  refine sumU_tot (fun u hu => ?_) hn.1 ?_
  · obtain ⟨_, _, c, d, _⟩ := h.all u hu
    exact ⟨by omega, by omega⟩
  · have := h.len
    omega
theorem GdU.tot {m : Int} {us : List AV} (h : GdU m us) : 0 ≤ tot us := tot_nonneg fun u hu => by
  obtain ⟨_, _, c, d, _⟩ := h.all u hu
  omega
theorem GdU.snoc {m : Int} {us : List AV} (h : GdU m us) {n now : Int} (hl : us.length < 300) (hb : ∀ u ∈ us, uA u ≤ now) (ht : -68719476736 ≤ now ∧ now ≤ 68719476736) (hn : 1 ≤ n ∧ n ≤ m) : GdU m (us ++ [useV now n]) := by
  refine ⟨by simp; omega, fun u hu => ?_, ?_⟩
  · rcases List.mem_append.1 hu with hu | hu
    · exact h.all u hu
    · rw [List.mem_singleton.1 hu]; exact ⟨ht.1, ht.2, hn.1, hn.2, rfl⟩
  · refine List.pairwise_append.2 ⟨h.srt, List.pairwise_singleton _ _, fun a ha b hb' => ?_⟩
    rw [List.mem_singleton.1 hb']
    exact hb a ha
theorem Gd.hcan {m : Int} {ks : List AV} (h : Gd m ks) : Can ks := fun e he => ⟨(h.key e he).2.2, fun u hu => by
  have := ((h.key e he).2.1.all u hu).2.2.2.2
  rw [← this]
  rfl⟩
theorem Gd.okL {m : Int} {ks : List AV} (h : Gd m ks) : ks.all okL = true := List.all_eq_true.2 fun e he => decide_eq_true (by have := (h.key e he).2.1.len; omega)
theorem none_look (s : List UInt8) (ks : List AV) : (fKey s ks).isNone = (lk kN s ks).isNone := by
  rw [find_look]
  cases fKey s ks <;> rfl
theorem uses_look (s : List UInt8) (ks : List AV) : usesO s ks = ((lk kN s ks).map kU).getD [] := by
  rw [find_look]
  unfold usesO
  cases fKey s ks <;> rfl
theorem Gd.uses {m : Int} {ks : List AV} (h : Gd m ks) (s : List UInt8) : GdU m (usesO s ks) := by
  rw [uses_look]
  cases hl : lk kN s ks with
  | none => exact GdU.nil m
  | some e => exact (h.key e (look_mem hl).1).2.1
theorem Gd.ins {m : Int} {ks : List AV} (h : Gd m ks) {s : List UInt8} (hn : nmB s = true) (hf : ((fKey s ks).isNone && ((ks.length : Int) == 300)) = false) {us : List AV} (hu : GdU m us) : Gd m (ins kN blt ks (keyV s us)) := by
  refine ⟨?_, fun e he => ?_, ins_srt bltO h.srt⟩
  · rw [none_look] at hf
    cases hl : lk kN s ks with
    | none =>
      rw [hl] at hf
      have : ((ks.length : Int) == 300) = false := hf
      have : (ks.length : Int) ≠ 300 := by simpa using this
      rw [ins_len_new bltO (x := keyV s us) (look_none.1 hl)]
      have := h.len
      omega
    | some e =>
      obtain ⟨h1, h2⟩ := look_mem hl
      rw [ins_len_old bltO (x := keyV s us) h.srt h1 h2]
      exact h.len
  · rcases (ins_mem bltO).1 he with rfl | ⟨he, _⟩
    · exact ⟨hn, hu, rfl⟩
    · exact h.key e he
/-- What is known where the answer has no fault. -/
structure Fine (w m : Int) (ks : List AV) (s : List UInt8) (n now : Int) (us' : List AV) : Prop where
  hw : 1 ≤ w ∧ w ≤ 1000000
  hm : 0 ≤ m ∧ m ≤ 1000000
  gd : Gd m ks
  nm : nmB s = true
  hn : 1 ≤ n ∧ n ≤ 1000000
  tm : -68719476736 ≤ now ∧ now ≤ 68719476736
  room : ((fKey s ks).isNone && ((ks.length : Int) == 300)) = false
  late : lateU (usesO s ks) now = false
  res : answP w m ks s n now = ⟨w, m, ins kN blt ks (keyV s us'), decide (n + tot (leftU now w (usesO s ks)) ≤ m), (0, 0)⟩
  new : us' = bif decide (n + tot (leftU now w (usesO s ks)) ≤ m) then leftU now w (usesO s ks) ++ [useV now n] else leftU now w (usesO s ks)
  gdU : GdU m us'
theorem fine_of {w m : Int} {ks : List AV} (hc : Can ks) {s : List UInt8} {n now : Int} (h : ((answP w m ks s n now).f.1 != 0) = false) : ∃ us', Fine w m ks s n now us' := by
  unfold answP at h
  cases hv : (valF w m ks s n now).1 != 0
  · obtain ⟨v1, v2, v3, v4⟩ := valF_zero hv
    obtain ⟨hw, hm, G⟩ := gd_of v1 hc
    have hn := inR_spec v3
    have ht := inR_spec v4
    rw [hv, cond_false] at h
    unfold specP at h
    cases hf : (fKey s ks).isNone && ((ks.length : Int) == 300)
    · rw [hf, cond_false] at h
      unfold coreP at h
      have gu := G.uses s
      cases hl : lateU (usesO s ks) now
      · rw [hl, cond_false] at h
        have gl := gu.left now w
        have hs := gl.sum hm.2 (n := n) ⟨by omega, by omega⟩
        by_cases hq : n + tot (leftU now w (usesO s ks)) ≤ m
        · rw [hs, decide_eq_false (by omega), cond_false] at h
          cases h3 : ((leftU now w (usesO s ks)).length : Int) == 300
          · have h3' : ((leftU now w (usesO s ks)).length : Int) ≠ 300 := by simpa using h3
            have ht0 := gl.tot
            have hl3 := gl.len
            refine ⟨leftU now w (usesO s ks) ++ [useV now n], hw, hm, G, v2, hn, ht, hf, hl, ?_, ?_, ?_⟩
            · unfold answP specP coreP
              rw [hv, hf, hl, hs, h3, decide_eq_false (show ¬ n + tot (leftU now w (usesO s ks)) > m by omega), decide_eq_true hq]
              rfl
            · rw [decide_eq_true hq]; rfl
            · exact gl.snoc (by omega) (fun u hu => gu.before hl u (List.mem_filter.1 hu).1) ht ⟨by omega, by omega⟩
          · rw [h3] at h; cases h
        · refine ⟨leftU now w (usesO s ks), hw, hm, G, v2, hn, ht, hf, hl, ?_, ?_, gl⟩
          · unfold answP specP coreP
            rw [hv, hf, hl, hs, decide_eq_true (show n + tot (leftU now w (usesO s ks)) > m by omega), decide_eq_false hq]
            rfl
          · rw [decide_eq_false hq]; rfl
      · rw [hl] at h; cases h
    · rw [hf] at h; cases h
  · rw [hv, cond_true] at h
    have : ((valF w m ks s n now).1 != 0) = false := h
    rw [hv] at this
    cases this
theorem err_of {w m : Int} {ks : List AV} {s : List UInt8} {n now : Int} (h : ((answP w m ks s n now).f.1 != 0) = true) : answP w m ks s n now = err (answP w m ks s n now).f := by
  revert h
  unfold answP specP coreP
  cases (valF w m ks s n now).1 != 0
  · cases (fKey s ks).isNone && ((ks.length : Int) == 300)
    · cases lateU (usesO s ks) now
      · cases decide (sumU n (leftU now w (usesO s ks)) > m)
        · cases ((leftU now w (usesO s ks)).length : Int) == 300
          · intro h; cases h
          · intro _; rfl
        · intro h; cases h
      · intro _; rfl
    · intro _; rfl
  · intro _; rfl
theorem Fine.gd' {w m : Int} {ks : List AV} {s : List UInt8} {n now : Int} {us' : List AV} (F : Fine w m ks s n now us') : Gd m (answP w m ks s n now).ks := by
  rw [F.res]
  exact F.gd.ins F.nm F.room F.gdU
theorem same_refl (a : Ans) : samR a.w a.m a.w a.m a.ks a.ks = true := by
  unfold samR
  have : ∀ us, difUs us us = false := fun us => by
    unfold difUs
    rw [bne_self_eq_false, findN_of_none fun i _ _ => by simp [difU]]
    rfl
  rw [beq_self_eq_true, beq_self_eq_true, Nat.beq_refl, findN_of_none fun i _ _ => by
    unfold difK
    rw [beq_self_eq_true, this]
    rfl]
  rfl
theorem law3 (w m : Int) (ks : List AV) (s : List UInt8) (n now : Int) (hc : Can ks) : evF Try.prog GL [] Try.f3 AV [.agg [.int .i64 w, .int .i64 m, .slv sK ks], .str s, .int .i64 n, .int .i64 now] some = some (.bool true) := by
  refine Eq.trans (b := bif canK ks then bif (ratF w m ks).fst == (ratF w m ks).fst && ((ratF w m ks).snd == (ratF w m ks).snd && true) then bif (allowP w m ks s n now).f.fst == (docP w m ks s n now).f.fst && ((allowP w m ks s n now).f.snd == (docP w m ks s n now).f.snd && true) then bif (allowP w m ks s n now).ok == (docP w m ks s n now).ok then bif small (allowP w m ks s n now).ks.length && (allowP w m ks s n now).ks.all okL then bif samR (allowP w m ks s n now).w (allowP w m ks s n now).m (docP w m ks s n now).w (docP w m ks s n now).m (allowP w m ks s n now).ks (docP w m ks s n now).ks then some (AV.bool true) else some (AV.bool false) else none else some (AV.bool false) else some (AV.bool false) else some (AV.bool false) else none) (by kernel_rfl) ?_
  have hs := same_refl (answP w m ks s n now)
  rw [hc.canK, allowP_eq hc, docP_eq hc, hs, beq_self_eq_true, beq_self_eq_true, beq_self_eq_true, beq_self_eq_true, beq_self_eq_true]
  have hk : (small (answP w m ks s n now).ks.length && (answP w m ks s n now).ks.all okL) = true := by
    cases h : (answP w m ks s n now).f.1 != 0
    · obtain ⟨us', F⟩ := fine_of hc h
      have G := F.gd'
      exact and_t (decide_eq_true (by have := G.len; omega)) G.okL
    · rw [err_of h]
      rfl
  rw [hk]
  rfl
theorem ok3 : SumOK Try.prog 3 (evF Try.prog GL [] Try.f3) := sum0 gl Try.func3 (by kernel_rfl) fun _ _ _ _ h => h
theorem open_rates {v : AV} (h : hasSh (.agg [.int .i64, .int .i64, .slice sK]) v = true) (hf : Fit v) : ∃ w m ks, v = .agg [.int .i64 w, .int .i64 m, .slv sK ks] ∧ Can ks := by
  obtain ⟨cs, rfl, hh⟩ := has_agg h
  obtain ⟨c0, cs, rfl, h0, hh⟩ := hass_cons hh
  obtain ⟨c1, cs, rfl, h1, hh⟩ := hass_cons hh
  obtain ⟨c2, cs, rfl, h2, hh⟩ := hass_cons hh
  obtain rfl := hass_nil hh
  obtain ⟨w, rfl⟩ := has_int h0
  obtain ⟨m, rfl⟩ := has_int h1
  obtain ⟨ks, rfl, _, hk, hfk⟩ := has_slice h2 (hf.agg_inv c2 (by simp))
  refine ⟨w, m, ks, rfl, fun e he => ?_⟩
  obtain ⟨cs, rfl, hh⟩ := has_agg (hk e he)
  obtain ⟨c0, cs, rfl, h0, hh⟩ := hass_cons hh
  obtain ⟨c1, cs, rfl, h1, hh⟩ := hass_cons hh
  obtain rfl := hass_nil hh
  obtain ⟨s, rfl⟩ := has_str h0
  obtain ⟨us, rfl, _, hu, _⟩ := has_slice h1 ((hfk _ he).agg_inv c1 (by simp))
  exact ⟨rfl, hu⟩

theorem spec3 (H : Type) : ∀ ds : List (DataW H), ds.length = Try.f3.params.size → Rows.ratesMatchesSpecSpec.fn H ds = { results := [.lit (.bool true)], args := ds }
  | [_, _, _, _], _ => rfl

set_option maxRecDepth 100000 in
theorem lifted3 (os : Os) (started : os.Started) (H : Type) (enc : TypeId × Value → H) :
    ReturnsInHanded {} Try.checked os 3 .any (Rows.ratesMatchesSpecSpec.pre6 enc Try.prog Try.f3 Rows.ratesMatchesSpecRow.domain false) (Rows.ratesMatchesSpecSpec.post enc Try.prog Try.f3 false true false false) := by
  refine returnsInHanded_of_change (C := Try.checked) own started (by kernel_rfl) Try.func3
    (ChangeSpec.witness6 (enc := enc) (C := Try.checked) false ⟨#[], #[.agg #[.int .i64 0, .int .i64 0, .slice none 0 0], .string ⟨#[]⟩, .int .i64 0, .int .i64 0], []⟩ 8 (by kernel_rfl) (by kernel_rfl) (by kernel_rfl) (by kernel_rfl)) ?_
  intro W base args ds gs before hval hW _ _
  refine contract_of (bk H) (n := 12) (tb := 4) (F := evF Try.prog GL [] Try.f3) (by kernel_rfl) (by kernel_rfl) (by kernel_rfl) rfl (by kernel_rfl) (by kernel_rfl) (spec3 H) (ok3) (fun avs hg => ?_) hval hW
  have hh : hasAll [.agg [.int .i64, .int .i64, .slice sK], .str, .int .i64, .int .i64] avs = true := hg.has
  obtain ⟨v0, cs, rfl, h0, hh⟩ := hasAll_cons hh
  obtain ⟨v1, cs, rfl, h1, hh⟩ := hasAll_cons hh
  obtain ⟨v2, cs, rfl, h2, hh⟩ := hasAll_cons hh
  obtain ⟨v3, cs, rfl, h3, hh⟩ := hasAll_cons hh
  obtain rfl := hasAll_nil hh
  obtain ⟨w, m, ks, rfl, hc⟩ := open_rates h0 (hg.fit _ (by simp))
  obtain ⟨s, rfl⟩ := has_str h1
  obtain ⟨n, rfl⟩ := has_int h2
  obtain ⟨now, rfl⟩ := has_int h3
  exact law3 w m ks s n now hc

theorem rates_match_spec : Rows.RatesMatchesSpecSaid :=
  OpenClaim.holds_of_wide 3 Try.f3 rfl rfl rfl rfl rfl rfl rfl ⟨rfl, rfl, rfl, rfl, rfl⟩ rfl rfl rfl rfl rfl (by kernel_rfl) Try.func3 (by kernel_rfl)
    (of_decide_eq_true (by kernel_rfl)) (by unfold Func.isWrapper; first | (rw [if_pos (by decide +kernel)]; kernel_rfl) | (rw [if_neg (by decide +kernel)]; exact ⟨rfl, rfl⟩))
    (fun os started H enc _ => lifted3 os started H enc)

end Go.Proofs.Ythacpbjcgmbplaa

/-
  RatesAreApart: for every input the call returns true, and the arguments read as before. No condition.
-/
namespace Go.Proofs.Ythacpbjcgmbplaa
open Go.Ev

theorem valF_fine {w m : Int} {ks : List AV} {s : List UInt8} {n now : Int} (hw : 1 ≤ w ∧ w ≤ 1000000) (hm : 0 ≤ m ∧ m ≤ 1000000) (G : Gd m ks) (hs : nmB s = true) (hn : 1 ≤ n ∧ n ≤ 1000000) (ht : -68719476736 ≤ now ∧ now ≤ 68719476736) : ((valF w m ks s n now).1 != 0) = false := by
  unfold valF
  rw [G.rat hw hm, hs, inR_of hn.1 hn.2, show tmB now = true from inR_of ht.1 ht.2]
  rfl
theorem answ_fine {w m : Int} {ks : List AV} {s : List UInt8} {n now : Int} (hv : ((valF w m ks s n now).1 != 0) = false) (hm : m ≤ 1000000) (G : GdU m (usesO s ks)) (hn : 1 ≤ n ∧ n ≤ 1000000) (hl : lateU (usesO s ks) now = false)
    (h3 : n + tot (leftU now w (usesO s ks)) ≤ m → ((leftU now w (usesO s ks)).length : Int) ≠ 300) :
    answP w m ks s n now = bif (fKey s ks).isNone && ((ks.length : Int) == 300) then err (2, -1) else ⟨w, m, ins kN blt ks (keyV s (bif decide (n + tot (leftU now w (usesO s ks)) ≤ m) then leftU now w (usesO s ks) ++ [useV now n] else leftU now w (usesO s ks))), decide (n + tot (leftU now w (usesO s ks)) ≤ m), (0, 0)⟩ := by
  unfold answP specP coreP
  rw [hv, hl, (G.left now w).sum hm (n := n) ⟨by omega, by omega⟩]
  by_cases hq : n + tot (leftU now w (usesO s ks)) ≤ m
  · have h3 : (((leftU now w (usesO s ks)).length : Int) == 300) = false := by simpa using h3 hq
    rw [decide_eq_false (show ¬ n + tot (leftU now w (usesO s ks)) > m by omega), decide_eq_true hq, h3]
    rfl
  · rw [decide_eq_true (show n + tot (leftU now w (usesO s ks)) > m by omega), decide_eq_false hq]
    rfl
theorem Fine.len {w m : Int} {ks : List AV} {s : List UInt8} {n now : Int} {us' : List AV} (F : Fine w m ks s n now us') (hq : n + tot (leftU now w (usesO s ks)) ≤ m) : ((leftU now w (usesO s ks)).length : Int) ≠ 300 := by
  have h := F.gdU.len
  rw [F.new, decide_eq_true hq] at h
  have h : (leftU now w (usesO s ks) ++ [useV now n]).length ≤ 300 := h
  rw [List.length_append] at h
  have h : (leftU now w (usesO s ks)).length + 1 ≤ 300 := h
  omega
theorem law6 (w m : Int) (ks : List AV) (a b : List UInt8) (n k now : Int) (hc : Can ks) : evF Try.prog GL [] Try.f6 AV [.agg [.int .i64 w, .int .i64 m, .slv sK ks], .str a, .str b, .int .i64 n, .int .i64 k, .int .i64 now] some = some (.bool true) := by
  refine Eq.trans (b := bif canK ks then bif canK ks then bif (allowP w m ks a n now).f.fst != (0 : Int) then some (AV.bool true) else bif (allowP w m ks b k now).f.fst != (0 : Int) then some (AV.bool true) else bif a == b then some (AV.bool true) else bif canK (allowP w m ks b k now).ks then bif (allowP (allowP w m ks b k now).w (allowP w m ks b k now).m (allowP w m ks b k now).ks a n now).f.fst == (2 : Int) && ((allowP (allowP w m ks b k now).w (allowP w m ks b k now).m (allowP w m ks b k now).ks a n now).f.snd == (-1 : Int) && true) then some (AV.bool true) else bif (allowP (allowP w m ks b k now).w (allowP w m ks b k now).m (allowP w m ks b k now).ks a n now).f.fst == (0 : Int) then bif (allowP (allowP w m ks b k now).w (allowP w m ks b k now).m (allowP w m ks b k now).ks a n now).ok == (allowP w m ks a n now).ok then some (AV.bool true) else some (AV.bool false) else some (AV.bool false) else none else none else none) (by kernel_rfl) ?_
  rw [hc.canK, allowP_eq hc, allowP_eq hc]
  cases h1 : (answP w m ks a n now).f.1 != 0
  · cases h2 : (answP w m ks b k now).f.1 != 0
    · cases hab : a == b
      · obtain ⟨ua, Fa⟩ := fine_of hc h1
        obtain ⟨ub, Fb⟩ := fine_of hc h2
        have G' := Fb.gd'
        have hne : a ≠ b := by simpa using hab
        rw [G'.hcan.canK, allowP_eq G'.hcan]
        rw [Fb.res] at G' ⊢
        have hlk : lk kN a (ins kN blt ks (keyV b ub)) = lk kN a ks := by
          rw [look_ins bltO Fa.gd.srt, if_neg (show ¬ a = kN (keyV b ub) from hne)]
        have hu : usesO a (ins kN blt ks (keyV b ub)) = usesO a ks := by rw [uses_look, uses_look, hlk]
        have hr := answ_fine (w := w) (valF_fine Fa.hw Fa.hm G' Fa.nm Fa.hn Fa.tm) Fa.hm.2 (G'.uses a) Fa.hn (by rw [hu]; exact Fa.late) (by rw [hu]; exact Fa.len)
        show (bif (answP w m (ins kN blt ks (keyV b ub)) a n now).f.1 == 2 && ((answP w m (ins kN blt ks (keyV b ub)) a n now).f.2 == -1 && true) then _ else bif (answP w m (ins kN blt ks (keyV b ub)) a n now).f.1 == 0 then bif (answP w m (ins kN blt ks (keyV b ub)) a n now).ok == (answP w m ks a n now).ok then _ else _ else _) = _
        rw [hr, hu, Fa.res]
        cases (fKey a (ins kN blt ks (keyV b ub))).isNone && (((ins kN blt ks (keyV b ub)).length : Int) == 300)
        · show (bif (decide (n + tot (leftU now w (usesO a ks)) ≤ m)) == decide (n + tot (leftU now w (usesO a ks)) ≤ m) then some (AV.bool true) else some (AV.bool false)) = some (AV.bool true)
          rw [beq_self_eq_true]
          rfl
        · rfl
      · rfl
    · rfl
  · rfl
theorem ok6 : SumOK Try.prog 6 (evF Try.prog GL [] Try.f6) := sum0 gl Try.func6 (by kernel_rfl) fun _ _ _ _ h => h

theorem spec6 (H : Type) : ∀ ds : List (DataW H), ds.length = Try.f6.params.size → Rows.ratesAreApartSpec.fn H ds = { results := [.lit (.bool true)], args := ds }
  | [_, _, _, _, _, _], _ => rfl

set_option maxRecDepth 100000 in
theorem lifted6 (os : Os) (started : os.Started) (H : Type) (enc : TypeId × Value → H) :
    ReturnsInHanded {} Try.checked os 6 .any (Rows.ratesAreApartSpec.pre6 enc Try.prog Try.f6 Rows.ratesAreApartRow.domain false) (Rows.ratesAreApartSpec.post enc Try.prog Try.f6 false true false false) := by
  refine returnsInHanded_of_change (C := Try.checked) own started (by kernel_rfl) Try.func6
    (ChangeSpec.witness6 (enc := enc) (C := Try.checked) false ⟨#[], #[.agg #[.int .i64 0, .int .i64 0, .slice none 0 0], .string ⟨#[]⟩, .string ⟨#[]⟩, .int .i64 0, .int .i64 0, .int .i64 0], []⟩ 8 (by kernel_rfl) (by kernel_rfl) (by kernel_rfl) (by kernel_rfl)) ?_
  intro W base args ds gs before hval hW _ _
  refine contract_of (bk H) (n := 12) (tb := 4) (F := evF Try.prog GL [] Try.f6) (by kernel_rfl) (by kernel_rfl) (by kernel_rfl) rfl (by kernel_rfl) (by kernel_rfl) (spec6 H) (ok6) (fun avs hg => ?_) hval hW
  have hh : hasAll [.agg [.int .i64, .int .i64, .slice sK], .str, .str, .int .i64, .int .i64, .int .i64] avs = true := hg.has
  obtain ⟨v0, cs, rfl, h0, hh⟩ := hasAll_cons hh
  obtain ⟨v1, cs, rfl, h1, hh⟩ := hasAll_cons hh
  obtain ⟨v2, cs, rfl, h2, hh⟩ := hasAll_cons hh
  obtain ⟨v3, cs, rfl, h3, hh⟩ := hasAll_cons hh
  obtain ⟨v4, cs, rfl, h4, hh⟩ := hasAll_cons hh
  obtain ⟨v5, cs, rfl, h5, hh⟩ := hasAll_cons hh
  obtain rfl := hasAll_nil hh
  obtain ⟨w, m, ks, rfl, hc⟩ := open_rates h0 (hg.fit _ (by simp))
  obtain ⟨a, rfl⟩ := has_str h1
  obtain ⟨b, rfl⟩ := has_str h2
  obtain ⟨n, rfl⟩ := has_int h3
  obtain ⟨k, rfl⟩ := has_int h4
  obtain ⟨now, rfl⟩ := has_int h5
  exact law6 w m ks a b n k now hc

theorem rates_are_apart : Rows.RatesAreApartSaid :=
  OpenClaim.holds_of_wide 6 Try.f6 rfl rfl rfl rfl rfl rfl rfl ⟨rfl, rfl, rfl, rfl, rfl⟩ rfl rfl rfl rfl rfl (by kernel_rfl) Try.func6 (by kernel_rfl)
    (of_decide_eq_true (by kernel_rfl)) (by unfold Func.isWrapper; first | (rw [if_pos (by decide +kernel)]; kernel_rfl) | (rw [if_neg (by decide +kernel)]; exact ⟨rfl, rfl⟩))
    (fun os started H enc _ => lifted6 os started H enc)

end Go.Proofs.Ythacpbjcgmbplaa

/-
  Uses of one key in order of time: what is kept from one to the next.
-/
namespace Go.Proofs.Ythacpbjcgmbplaa
open Go.Ev

def kk : List UInt8 := [107]
def sumP (p : AV → Bool) (s : Int) (us : List AV) : Int := us.foldl (fun s e => bif p e then IntKind.i64.wrap (s + uN e) else s) s
theorem sumP_cons (p : AV → Bool) (s : Int) (e : AV) (r : List AV) : sumP p s (e :: r) = sumP p (bif p e then IntKind.i64.wrap (s + uN e) else s) r := rfl
theorem sumP_tot (p : AV → Bool) : ∀ {us : List AV} {n : Int}, (∀ u ∈ us, 0 ≤ uN u ∧ uN u ≤ 1000000) → 0 ≤ n → n + 1000000 * us.length ≤ 1000000000000 → sumP p n us = n + tot (us.filter p)
  | [], n, _, _, _ => by show n = n + 0; omega
  | e :: r, n, h, h0, hl => by
    obtain ⟨a, b⟩ := h e (by simp)
    have hl' : (((e :: r).length : Nat) : Int) = r.length + 1 := by simp
    rw [hl'] at hl
    have hr : ∀ u ∈ r, 0 ≤ uN u ∧ uN u ≤ 1000000 := fun u hu => h u (by simp [hu])
    rw [sumP_cons, List.filter_cons]
    cases hp : p e
    · rw [cond_false, sumP_tot p hr h0 (by omega)]
      rfl
    · rw [cond_true, wrap_mid (n + uN e) (by omega) (by omega), sumP_tot p hr (by omega) (by omega), if_pos rfl]
      show n + uN e + tot (r.filter p) = n + (uN e + tot (r.filter p))
      omega
theorem tot_mono {p q : AV → Bool} : ∀ {us : List AV}, (∀ u ∈ us, 0 ≤ uN u) → (∀ u ∈ us, p u = true → q u = true) → tot (us.filter p) ≤ tot (us.filter q)
  | [], _, _ => Int.le_refl _
  | e :: r, h, hpq => by
    have ih := tot_mono (p := p) (q := q) (us := r) (fun u hu => h u (by simp [hu])) fun u hu => hpq u (by simp [hu])
    have h0 := h e (by simp)
    have h1 := hpq e (by simp)
    rw [List.filter_cons, List.filter_cons]
    cases hp : p e
    · cases hq : q e
      · exact ih
      · show tot (r.filter p) ≤ uN e + tot (r.filter q)
        omega
    · rw [h1 hp]
      show uN e + tot (r.filter p) ≤ uN e + tot (r.filter q)
      omega
def rng (a : Int) : Prop := -68719476736 ≤ a ∧ a ≤ 68719476736
theorem rng_sub {a b : Int} (ha : rng a) (hb : rng b) : IntKind.i64.wrap (a - b) = a - b := by
  obtain ⟨a1, a2⟩ := ha
  obtain ⟨b1, b2⟩ := hb
  exact wrap_mid _ (by omega) (by omega)
def inA (w now : Int) (e : AV) : Bool := inR (IntKind.i64.wrap (now - uA e)) 0 (IntKind.i64.wrap (w - 1))
def inB (w a : Int) (e : AV) : Bool := inR (IntKind.i64.wrap (uA e - a)) 0 (IntKind.i64.wrap (w - 1))
theorem w_sub {w : Int} (hw : 1 ≤ w ∧ w ≤ 1000000) : IntKind.i64.wrap (w - 1) = w - 1 := wrap_mid _ (by omega) (by omega)
theorem inA_old {w now : Int} {e : AV} (hw : 1 ≤ w ∧ w ≤ 1000000) (hn : rng now) (he : rng (uA e)) (hle : uA e ≤ now) : inA w now e = !oldU now w e := by
  unfold inA inR oldU
  rw [rng_sub hn he, w_sub hw, decide_eq_true (by omega), Bool.true_and]
  by_cases h : now - uA e ≤ w - 1
  · rw [decide_eq_true h, decide_eq_false (by omega)]; rfl
  · rw [decide_eq_false h, decide_eq_true (by omega)]; rfl
theorem old_iff {w now : Int} {e : AV} (hn : rng now) (he : rng (uA e)) : (!oldU now w e) = decide (now - uA e < w) := by
  unfold oldU
  rw [rng_sub hn he]
  by_cases h : now - uA e < w
  · rw [decide_eq_true h, decide_eq_false (by omega)]; rfl
  · rw [decide_eq_false h, decide_eq_true (by omega)]; rfl
theorem inB_iff {w a : Int} {e : AV} (hw : 1 ≤ w ∧ w ≤ 1000000) (ha : rng a) (he : rng (uA e)) : inB w a e = true ↔ 0 ≤ uA e - a ∧ uA e - a ≤ w - 1 := by
  unfold inB inR
  rw [rng_sub he ha, w_sub hw]
  simp
structure Inv (w m : Int) (us : List AV) (i : Nat) (ks out : List AV) : Prop where
  hw : 1 ≤ w ∧ w ≤ 1000000
  hm : 0 ≤ m ∧ m ≤ 1000000
  gd : Gd m ks
  len : out.length ≤ i
  hi : i ≤ us.length
  hl : us.length ≤ 60
  srt : us.Pairwise fun a b => uA a ≤ uA b
  ex : ∃ T, (∀ j, i ≤ j → j < us.length → T ≤ uA (us.getD j .unk)) ∧ usesO kk ks = leftU T w out ∧ ∀ u ∈ out, rng (uA u) ∧ rng T ∧ uA u ≤ T
  num : ∀ u ∈ out, 1 ≤ uN u ∧ uN u ≤ m
  win : ∀ x ∈ out, tot (out.filter (inB w (uA x))) ≤ m
theorem Inv.skip {w m : Int} {us : List AV} {i : Nat} {ks out : List AV} (I : Inv w m us i ks out) (hi : i < us.length) : Inv w m us (i + 1) ks out := by
  obtain ⟨T, t1, t2, t3⟩ := I.ex
  have := I.len
  exact ⟨I.hw, I.hm, I.gd, by omega, hi, I.hl, I.srt, ⟨T, fun j hj hl => t1 j (by omega) hl, t2, t3⟩, I.num, I.win⟩
theorem Inv.step {w m : Int} {us : List AV} {i : Nat} {ks out : List AV} (I : Inv w m us i ks out) (hi : i < us.length) {us' : List AV} (F : Fine w m ks kk (uN (us.getD i .unk)) (uA (us.getD i .unk)) us') :
    decide (uN (us.getD i .unk) + tot (leftU (uA (us.getD i .unk)) w (usesO kk ks)) ≤ m) = decide (sumP (inA w (uA (us.getD i .unk))) (uN (us.getD i .unk)) out ≤ m) ∧
    Inv w m us (i + 1) (ins kN blt ks (keyV kk us')) (bif decide (uN (us.getD i .unk) + tot (leftU (uA (us.getD i .unk)) w (usesO kk ks)) ≤ m) then out ++ [uE (us.getD i .unk)] else out) := by
  obtain ⟨T, t1, t2, t3⟩ := I.ex
  have hlen := I.len
  have hl60 := I.hl
  have hm := I.hm
  have hw := I.hw
  have hT := t1 i (Nat.le_refl _) hi
  have hlater : ∀ j, i + 1 ≤ j → j < us.length → uA (us.getD i .unk) ≤ uA (us.getD j .unk) := fun j hj hl => by
    rw [getD_eq hi, getD_eq hl]
    exact List.pairwise_iff_getElem.1 I.srt i j hi hl (by omega)
  have hu : uE (us.getD i .unk) = useV (uA (us.getD i .unk)) (uN (us.getD i .unk)) := rfl
  rw [hu]
  generalize us.getD i .unk = u at *
  have hnow : rng (uA u) := F.tm
  have hn := F.hn
  have h1 : leftU (uA u) w (usesO kk ks) = leftU (uA u) w out := by
    rw [t2]
    unfold leftU
    rw [List.filter_filter]
    refine List.filter_congr fun x hx => ?_
    obtain ⟨a, b, c⟩ := t3 x hx
    rw [old_iff hnow a, old_iff b a]
    by_cases h : uA u - uA x < w
    · rw [decide_eq_true h, decide_eq_true (by omega)]; rfl
    · rw [decide_eq_false h]; rfl
  have h2 : out.filter (inA w (uA u)) = leftU (uA u) w out := List.filter_congr fun x hx => by
    obtain ⟨a, b, c⟩ := t3 x hx
    exact inA_old hw hnow a (by omega)
  have h3 : sumP (inA w (uA u)) (uN u) out = uN u + tot (leftU (uA u) w out) := by
    rw [← h2]
    refine sumP_tot _ (fun x hx => ?_) (by omega) (by omega)
    obtain ⟨d, e⟩ := I.num x hx
    exact ⟨by omega, by omega⟩
  have h0 : ∀ x ∈ out, 0 ≤ uN x := fun x hx => by
    have := (I.num x hx).1
    omega
  have ht0 : 0 ≤ tot (leftU (uA u) w out) := tot_nonneg fun x hx => h0 x (List.mem_filter.1 hx).1
  have hus : usesO kk (ins kN blt ks (keyV kk us')) = us' := by
    rw [uses_look, look_ins bltO I.gd.srt, if_pos (show kk = kN (keyV kk us') from rfl)]
    rfl
  have hnew := F.new
  have hG := F.gd'
  rw [F.res] at hG
  rw [h1] at hnew
  refine ⟨by rw [h1, h3], ?_⟩
  rw [h1]
  by_cases hq : uN u + tot (leftU (uA u) w out) ≤ m
  · rw [decide_eq_true hq, cond_true] at hnew ⊢
    have hold : oldU (uA u) w (useV (uA u) (uN u)) = false := by
      unfold oldU
      rw [show uA (useV (uA u) (uN u)) = uA u from rfl, rng_sub hnow hnow]
      exact decide_eq_false (by omega)
    have hB : inB w (uA u) (useV (uA u) (uN u)) = true := (inB_iff hw hnow hnow).2 ⟨by show 0 ≤ uA u - uA u; omega, by show uA u - uA u ≤ w - 1; omega⟩
    refine ⟨I.hw, I.hm, hG, by simp; omega, hi, I.hl, I.srt, ⟨uA u, hlater, ?_, fun x hx => ?_⟩, fun x hx => ?_, fun x hx => ?_⟩
    · rw [hus, hnew]
      unfold leftU
      rw [List.filter_append]
      simp [hold]
    · rcases List.mem_append.1 hx with hx | hx
      · obtain ⟨a, b, c⟩ := t3 x hx
        exact ⟨a, hnow, by omega⟩
      · rw [List.mem_singleton.1 hx]
        exact ⟨hnow, hnow, Int.le_refl _⟩
    · rcases List.mem_append.1 hx with hx | hx
      · exact I.num x hx
      · rw [List.mem_singleton.1 hx]
        exact ⟨hn.1, by show uN u ≤ m; omega⟩
    · have hrx : rng (uA x) := by
        rcases List.mem_append.1 hx with hx | hx
        · exact (t3 x hx).1
        · rw [List.mem_singleton.1 hx]; exact hnow
      rw [List.filter_append, tot_append]
      cases hb : inB w (uA x) (useV (uA u) (uN u))
      · rcases List.mem_append.1 hx with hx | hx
        · have := I.win x hx
          simp only [List.filter_cons, hb]
          show tot (out.filter (inB w (uA x))) + 0 ≤ m
          omega
        · rw [List.mem_singleton.1 hx] at hb
          rw [show uA (useV (uA u) (uN u)) = uA u from rfl, hB] at hb
          cases hb
      · have hb' := (inB_iff hw hrx hnow).1 hb
        have hb1 : 0 ≤ uA u - uA x := hb'.1
        have hb2 : uA u - uA x ≤ w - 1 := hb'.2
        have hmono : tot (out.filter (inB w (uA x))) ≤ tot (leftU (uA u) w out) := tot_mono h0 fun y hy hyb => by
          have hry := (t3 y hy).1
          obtain ⟨c1, c2⟩ := (inB_iff hw hrx hry).1 hyb
          rw [old_iff hnow hry]
          exact decide_eq_true (by omega)
        simp only [List.filter_cons, hb]
        show tot (out.filter (inB w (uA x))) + (uN u + 0) ≤ m
        omega
  · rw [decide_eq_false hq, cond_false] at hnew ⊢
    refine ⟨I.hw, I.hm, hG, by omega, hi, I.hl, I.srt, ⟨uA u, hlater, by rw [hus, hnew], fun x hx => ?_⟩, I.num, I.win⟩
    obtain ⟨a, b, c⟩ := t3 x hx
    exact ⟨a, hnow, by omega⟩
theorem Inv.first {w m : Int} {us : List AV} (hw : 1 ≤ w ∧ w ≤ 1000000) (hm : 0 ≤ m ∧ m ≤ 1000000) (hl : us.length ≤ 60) (hs : us.Pairwise fun a b => uA a ≤ uA b) : Inv w m us 0 [] [] := by
  have hex : ∃ T, ∀ j, 0 ≤ j → j < us.length → T ≤ uA (us.getD j .unk) := by
    refine ⟨uA (us.getD 0 .unk), fun j _ hj => ?_⟩
    by_cases h0 : j = 0
    · rw [h0]; exact Int.le_refl _
    · rw [getD_eq hj, getD_eq (by omega : 0 < us.length)]
      exact List.pairwise_iff_getElem.1 hs 0 j (by omega) hj (by omega)
  obtain ⟨T, hT⟩ := hex
  exact ⟨hw, hm, ⟨by simp, fun e he => (by cases he), List.Pairwise.nil⟩, by simp, Nat.zero_le _, hl, hs, ⟨T, hT, rfl, fun u hu => (by cases hu)⟩, fun u hu => (by cases hu), fun u hu => (by cases hu)⟩
/-- The keys of a cell: none yet, or a list. -/
def kOf : AV → List AV
  | .slv _ ks => ks
  | _ => []
def isKs : AV → Bool
  | .slz (.agg [.str, .slice (.agg [.int .i64, .int .i64])]) => true
  | .slv (.agg [.str, .slice (.agg [.int .i64, .int .i64])]) _ => true
  | _ => false
theorem isKs_spec {x : AV} (h : isKs x = true) : x = .slz sK ∨ ∃ ks, x = .slv sK ks := by
  unfold isKs at h
  split at h
  · exact .inl rfl
  · exact .inr ⟨_, rfl⟩
  · cases h
/-- What a run of uses leaves behind: the keys, and the uses that were permitted. -/
def runU (w m : Int) (us : List AV) : Nat → AV → List AV → AV × List AV
  | 0, kc, out => (kc, out)
  | d + 1, kc, out =>
    bif (allowP w m (kOf kc) kk (uN (us.getD (us.length - (d + 1)) .unk)) (uA (us.getD (us.length - (d + 1)) .unk))).f.1 != 0 then runU w m us d kc out else
    runU w m us d (.slv sK (allowP w m (kOf kc) kk (uN (us.getD (us.length - (d + 1)) .unk)) (uA (us.getD (us.length - (d + 1)) .unk))).ks)
      (bif (allowP w m (kOf kc) kk (uN (us.getD (us.length - (d + 1)) .unk)) (uA (us.getD (us.length - (d + 1)) .unk))).ok then out ++ [uE (us.getD (us.length - (d + 1)) .unk)] else out)
theorem runU_step (w m : Int) (us : List AV) {i : Nat} (hi : i < us.length) (kc : AV) (out : List AV) : runU w m us (us.length - i) kc out =
    bif (allowP w m (kOf kc) kk (uN (us.getD i .unk)) (uA (us.getD i .unk))).f.1 != 0 then runU w m us (us.length - (i + 1)) kc out else
    runU w m us (us.length - (i + 1)) (.slv sK (allowP w m (kOf kc) kk (uN (us.getD i .unk)) (uA (us.getD i .unk))).ks)
      (bif (allowP w m (kOf kc) kk (uN (us.getD i .unk)) (uA (us.getD i .unk))).ok then out ++ [uE (us.getD i .unk)] else out) := by
  obtain ⟨d, hd⟩ : ∃ d, us.length - i = d + 1 := ⟨us.length - i - 1, by omega⟩
  rw [hd, show us.length - (i + 1) = d from by omega]
  conv => lhs; unfold runU
  rw [show us.length - (d + 1) = i from by omega]
/-- One use: what is known before, is known behind it. -/
theorem Inv.one {w m : Int} {us : List AV} {i : Nat} {ks out : List AV} (I : Inv w m us i ks out) (hi : i < us.length) :
    ((allowP w m ks kk (uN (us.getD i .unk)) (uA (us.getD i .unk))).f.1 != 0) = true ∨
    (((allowP w m ks kk (uN (us.getD i .unk)) (uA (us.getD i .unk))).f.1 != 0) = false ∧ (allowP w m ks kk (uN (us.getD i .unk)) (uA (us.getD i .unk))).w = w ∧ (allowP w m ks kk (uN (us.getD i .unk)) (uA (us.getD i .unk))).m = m ∧
      (allowP w m ks kk (uN (us.getD i .unk)) (uA (us.getD i .unk))).ok = decide (sumP (inA w (uA (us.getD i .unk))) (uN (us.getD i .unk)) out ≤ m) ∧
      Inv w m us (i + 1) (allowP w m ks kk (uN (us.getD i .unk)) (uA (us.getD i .unk))).ks (bif (allowP w m ks kk (uN (us.getD i .unk)) (uA (us.getD i .unk))).ok then out ++ [uE (us.getD i .unk)] else out)) := by
  rw [allowP_eq I.gd.hcan]
  cases hf : (answP w m ks kk (uN (us.getD i .unk)) (uA (us.getD i .unk))).f.1 != 0
  · right
    obtain ⟨us', F⟩ := fine_of I.gd.hcan hf
    obtain ⟨h1, h2⟩ := I.step hi F
    rw [F.res]
    exact ⟨rfl, rfl, rfl, h1, h2⟩
  · exact .inl rfl
theorem Inv.run {w m : Int} {us : List AV} : ∀ (d i : Nat) {kc : AV} {out : List AV}, us.length - i = d → Inv w m us i (kOf kc) out → Inv w m us us.length (kOf (runU w m us d kc out).1) (runU w m us d kc out).2
  | 0, i, kc, out, hd, I => by
    have := I.hi
    obtain rfl : i = us.length := by omega
    exact I
  | d + 1, i, kc, out, hd, I => by
    have hi : i < us.length := by omega
    rw [← hd, runU_step w m us hi]
    rcases I.one hi with h | ⟨h, _, _, _, h2⟩
    · rw [h, cond_true, show us.length - (i + 1) = d from by omega]
      exact Inv.run d (i + 1) (by omega) (I.skip hi)
    · rw [h, cond_false, show us.length - (i + 1) = d from by omega]
      exact Inv.run d (i + 1) (by omega) h2
noncomputable def invB (w m : Int) (us : List AV) (i : Int) (ks out : List AV) : Bool := @decide (0 ≤ i ∧ Inv w m us i.toNat ks out) (Classical.propDecidable _)
theorem invB_of {w m : Int} {us : List AV} {i : Nat} {ks out : List AV} (I : Inv w m us i ks out) : invB w m us (i : Int) ks out = true := @decide_eq_true _ (Classical.propDecidable _) ⟨by omega, I⟩
theorem invB_spec {w m : Int} {us : List AV} {i : Int} {ks out : List AV} (h : invB w m us i ks out = true) : ∃ j : Nat, i = j ∧ Inv w m us j ks out := by
  obtain ⟨h1, h2⟩ := @of_decide_eq_true _ (Classical.propDecidable _) h
  exact ⟨i.toNat, by omega, h2⟩
end Go.Proofs.Ythacpbjcgmbplaa

namespace Go.Proofs.Ythacpbjcgmbplaa
open Go.Ev

noncomputable def b4a : Code := ((Try.f4.body.map loopsOf).getD []).headD .skip
noncomputable def b4b : Code := ((Try.f4.body.map loopsOf).getD []).tail.headD .skip
noncomputable def b4c : Code := ((Try.f4.body.map loopsOf).getD []).tail.tail.headD .skip
noncomputable def b4d : Code := ((Try.f4.body.map loopsOf).getD []).tail.tail.tail.headD .skip
def disU (us : List AV) (i : Nat) : Bool := decide (uA (us.getD i .unk) < uA (us.getD (i - 1) .unk))
def A4 : List AV → List (Option Row) → Tr LOut
  | [.int .i64 w, .int .i64 m, .slv (.agg [.int .i64, .int .i64]) us, .bool false, .ptr 195 0, .own 900, .int .i64 i], [some (.box false [.int .i64 w', .int .i64 m', .slz (.agg [.str, .slice (.agg [.int .i64, .int .i64])])]), some (.arr false (.agg [.int .i64, .int .i64]) 36 [] none)] =>
    .gd (decide (1 ≤ i ∧ us.length ≤ 60)) (sT (disU us) us.length
      (fun q => .leaf (.ret, [.int .i64 w, .int .i64 m, .slv sU us, .bool true, .ptr 195 0, .own 900, .int .i64 q], [some (.box false [.int .i64 w', .int .i64 m', .slz sK]), some (.arr false sU 36 [] none)]))
      (.leaf (.exit 0, [.int .i64 w, .int .i64 m, .slv sU us, .bool false, .ptr 195 0, .own 900, .int .i64 (max us.length i.toNat : Nat)], [some (.box false [.int .i64 w', .int .i64 m', .slz sK]), some (.arr false sU 36 [] none)])) i.toNat)
  | _, _ => .no
def a4 : Ev.Loop := ⟨{ len := 124, slots := [0, 1, 2, 6, 7, 8, 9], rows := [195, 900], homes := [(8, 900, 36)] }, ofL A4⟩
def μ4a (vs : List AV) (_ : List (Option Row)) : Nat := match vs with
  | [_, _, .slv _ us, _, _, _, .int _ i] => ((us.length : Int) - i).toNat
  | _ => 0
def isV : AV → Bool
  | .slv _ _ => true
  | _ => false
noncomputable def B4 : List AV → List (Option Row) → Tr LOut
  | [.int .i64 w, .int .i64 m, .slv (.agg [.int .i64, .int .i64]) us, .bool false, .ptr 195 0, .own 900, .int .i64 i], [some (.box false [.int .i64 w', .int .i64 m', x]), some (.arr false (.agg [.int .i64, .int .i64]) 36 out none)] =>
    .gd (isKs x && (decide (w' = w ∧ m' = m) && invB w m us i (kOf x) out)) (.br (isV (runU w m us (us.length - i.toNat) x out).1) (.leaf (.exit 2, [.int .i64 w, .int .i64 m, .slv sU us, .bool false, .ptr 195 0, .own 900, .int .i64 us.length], [some (.box false [.int .i64 w, .int .i64 m, .slv sK (kOf (runU w m us (us.length - i.toNat) x out).1)]), some (.arr false sU 36 (runU w m us (us.length - i.toNat) x out).2 none)]))
      (.leaf (.exit 2, [.int .i64 w, .int .i64 m, .slv sU us, .bool false, .ptr 195 0, .own 900, .int .i64 us.length], [some (.box false [.int .i64 w, .int .i64 m, .slz sK]), some (.arr false sU 36 (runU w m us (us.length - i.toNat) x out).2 none)])))
  | _, _ => .no
noncomputable def l4b : Ev.Loop := ⟨{ len := 124, slots := [0, 1, 2, 6, 7, 8, 10], rows := [195, 900], homes := [(8, 900, 36)] }, ofL B4⟩
def D4 : List AV → List (Option Row) → Tr LOut
  | [.int .i64 w, .int .i64 m, .bool false, .own 900, .int .i64 i, .int .i64 s, .int .i64 q], [some (.arr false (.agg [.int .i64, .int .i64]) 36 out none)] =>
    .gd (decide (0 ≤ i ∧ i < out.length ∧ 0 ≤ q ∧ q ≤ out.length ∧ out.length ≤ 60)) (.leaf (.exit 6, [.int .i64 w, .int .i64 m, .bool false, .own 900, .int .i64 i, .int .i64 (sumP (inB w (uA (out.getD i.toNat .unk))) s (out.drop q.toNat)), .int .i64 out.length], [some (.arr false sU 36 out none)]))
  | _, _ => .no
def l4d : Ev.Loop := ⟨{ len := 124, slots := [0, 1, 6, 8, 14, 15, 16], rows := [900], homes := [(8, 900, 36)] }, ofL D4⟩
def overW (w m : Int) (out : List AV) (i : Nat) : Bool := decide (sumP (inB w (uA (out.getD i .unk))) 0 out > m)
def C4 : List AV → List (Option Row) → Tr LOut
  | [.int .i64 w, .int .i64 m, .bool false, .own 900, .int .i64 i], [some (.arr false (.agg [.int .i64, .int .i64]) 36 out none)] =>
    .gd (decide (0 ≤ i ∧ i ≤ out.length ∧ out.length ≤ 60)) (sT (overW w m out) out.length
      (fun q => .leaf (.ret, [.int .i64 w, .int .i64 m, .bool false, .own 900, .int .i64 q], [some (.arr false sU 36 out none)]))
      (.leaf (.exit 4, [.int .i64 w, .int .i64 m, .bool false, .own 900, .int .i64 out.length], [some (.arr false sU 36 out none)])) i.toNat)
  | _, _ => .no
def l4c : Ev.Loop := ⟨{ len := 124, slots := [0, 1, 6, 8, 14], rows := [900], homes := [(8, 900, 36)] }, ofL C4⟩
def μ4d (vs : List AV) (rs : List (Option Row)) : Nat := match vs, rs with
  | [_, _, _, _, _, _, .int _ q], [some (.arr _ _ _ out _)] => ((out.length : Int) - q).toNat
  | _, _ => 0
def μ4c (vs : List AV) (rs : List (Option Row)) : Nat := match vs, rs with
  | [_, _, _, _, .int _ i], [some (.arr _ _ _ out _)] => ((out.length : Int) - i).toNat
  | _, _ => 0
theorem loop4a : LoopOK Try.prog GL [(6, a4), (11, l4b), (19, l4c), (23, l4d)] b4a a4 := by
  refine loopT gl.natOK rfl (KOK.nil (by kernel_rfl)) μ4a (fun ρ vs rs k r h => ?_)
  unfold A4 at h
  split at h
  · rename_i w m us i' w' m'
    obtain ⟨hc, hk⟩ := gd_some h
    obtain ⟨d1, d2⟩ := of_decide_eq_true hc
    obtain ⟨i, rfl⟩ : ∃ i : Nat, i' = i := ⟨i'.toNat, by omega⟩
    rw [Int.toNat_natCast] at hk
    refine Eq.trans (b := bif decide ((↑i : Int) < (↑us.length : Int)) then bif inb (↑i : Int) us.length then bif inb (IntKind.i64.wrap ((↑i : Int) - (1 : Int))) us.length then bif decide (((us.getD i AV.unk).cells.headD AV.unk).toInt < ((us.getD (IntKind.i64.wrap ((↑i : Int) - (1 : Int))).toNat AV.unk).cells.headD AV.unk).toInt) then k Ex.ret [AV.int IntKind.i64 w, AV.int IntKind.i64 m, AV.slv (Sh.agg [Sh.int IntKind.i64, Sh.int IntKind.i64]) us, AV.bool true, AV.ptr (195 : Nat) (0 : Nat), AV.own (900 : Nat), AV.int IntKind.i64 (↑i : Int)] [some (Row.box false [AV.int IntKind.i64 w', AV.int IntKind.i64 m', AV.slz (Sh.agg [Sh.str, (Sh.agg [Sh.int IntKind.i64, Sh.int IntKind.i64]).slice])]), some (Row.arr false (Sh.agg [Sh.int IntKind.i64, Sh.int IntKind.i64]) (36 : Nat) [] none)] else bif decide (((↑us.length : Int) - IntKind.i64.wrap ((↑i : Int) + (1 : Int))).toNat < ((↑us.length : Int) - (↑i : Int)).toNat) then bif decide ((1 : Int) ≤ IntKind.i64.wrap ((↑i : Int) + (1 : Int)) ∧ us.length ≤ (60 : Nat)) then bif (findN (disU us) us.length (IntKind.i64.wrap ((↑i : Int) + (1 : Int))).toNat).isSome then k Ex.ret [AV.int IntKind.i64 w, AV.int IntKind.i64 m, AV.slv (Sh.agg [Sh.int IntKind.i64, Sh.int IntKind.i64]) us, AV.bool true, AV.ptr (195 : Nat) (0 : Nat), AV.own (900 : Nat), AV.int IntKind.i64 (↑((findN (disU us) us.length (IntKind.i64.wrap ((↑i : Int) + (1 : Int))).toNat).getD (0 : Nat)) : Int)] [some (Row.box false [AV.int IntKind.i64 w', AV.int IntKind.i64 m', AV.slz (Sh.agg [Sh.str, (Sh.agg [Sh.int IntKind.i64, Sh.int IntKind.i64]).slice])]), some (Row.arr false (Sh.agg [Sh.int IntKind.i64, Sh.int IntKind.i64]) (36 : Nat) [] none)] else k (Ex.exit (0 : Nat)) [AV.int IntKind.i64 w, AV.int IntKind.i64 m, AV.slv (Sh.agg [Sh.int IntKind.i64, Sh.int IntKind.i64]) us, AV.bool false, AV.ptr (195 : Nat) (0 : Nat), AV.own (900 : Nat), AV.int IntKind.i64 (↑(max us.length (IntKind.i64.wrap ((↑i : Int) + (1 : Int))).toNat) : Int)] [some (Row.box false [AV.int IntKind.i64 w', AV.int IntKind.i64 m', AV.slz (Sh.agg [Sh.str, (Sh.agg [Sh.int IntKind.i64, Sh.int IntKind.i64]).slice])]), some (Row.arr false (Sh.agg [Sh.int IntKind.i64, Sh.int IntKind.i64]) (36 : Nat) [] none)] else none else none else none else none else k (Ex.exit (0 : Nat)) [AV.int IntKind.i64 w, AV.int IntKind.i64 m, AV.slv (Sh.agg [Sh.int IntKind.i64, Sh.int IntKind.i64]) us, AV.bool false, AV.ptr (195 : Nat) (0 : Nat), AV.own (900 : Nat), AV.int IntKind.i64 (↑i : Int)] [some (Row.box false [AV.int IntKind.i64 w', AV.int IntKind.i64 m', AV.slz (Sh.agg [Sh.str, (Sh.agg [Sh.int IntKind.i64, Sh.int IntKind.i64]).slice])]), some (Row.arr false (Sh.agg [Sh.int IntKind.i64, Sh.int IntKind.i64]) (36 : Nat) [] none)]) (by kernel_rfl) ?_
    rw [← hk]
    by_cases hlt : i < us.length
    · have e1 : IntKind.i64.wrap ((i : Int) + 1) = ((i + 1 : Nat) : Int) := by rw [wrap_mid _ (by omega) (by omega)]; omega
      have e2 : IntKind.i64.wrap ((i : Int) - 1) = ((i - 1 : Nat) : Int) := by rw [wrap_mid _ (by omega) (by omega)]; omega
      have i1 : inb (i : Int) us.length = true := inb_true (by omega) (by omega)
      have i2 : inb ((i - 1 : Nat) : Int) us.length = true := inb_true (by omega) (by omega)
      rw [sT_step _ _ _ _ _ hlt, decide_eq_true (by omega), e1, e2, i1, i2, Int.toNat_natCast]
      show (bif disU us i then _ else _) = _
      cases disU us i
      · refine Eq.trans (cond_f rfl) (Eq.trans (cond_t (decide_eq_true (by omega))) (Eq.trans (cond_t (decide_eq_true ⟨by omega, by omega⟩)) ?_))
        rw [Int.toNat_natCast, show max us.length (i + 1) = max us.length i from by omega]
        unfold sT
        cases findN (disU us) us.length (i + 1) <;> rfl
      · rfl
    · have hz : findN (disU us) us.length i = none := findN_of_none fun j h1 h2 => by omega
      rw [decide_eq_false (by omega)]
      unfold sT
      rw [hz, show max us.length i = i from by omega]
      rfl
  · cases h
theorem loop4b : LoopOK Try.prog GL [(6, a4), (11, l4b), (19, l4c), (23, l4d)] b4b l4b := by
  refine loopT gl.natOK rfl (KOK.nil (by kernel_rfl)) μ4a (fun ρ vs rs k r h => ?_)
  unfold B4 at h
  split at h
  · rename_i w m us i' w' m' x out
    obtain ⟨hc, hk⟩ := gd_some h
    simp only [Bool.and_eq_true] at hc
    obtain ⟨hx, hwm, hI⟩ := hc
    obtain ⟨rfl, rfl⟩ := of_decide_eq_true hwm
    obtain ⟨i, rfl, I⟩ := invB_spec hI
    rw [Int.toNat_natCast] at hk
    rcases isKs_spec hx with rfl | ⟨ks, rfl⟩
    · refine Eq.trans (b := bif decide ((↑i : Int) < (↑us.length : Int)) then bif inb (↑i : Int) us.length then bif inb (↑i : Int) us.length then bif (allowP w' m' [] ([(107 : UInt8)] : List UInt8) ((us.getD i AV.unk).cells.tail.headD AV.unk).toInt ((us.getD i AV.unk).cells.headD AV.unk).toInt).f.fst != (0 : Int) then bif decide (((↑us.length : Int) - IntKind.i64.wrap ((↑i : Int) + (1 : Int))).toNat < ((↑us.length : Int) - (↑i : Int)).toNat) then bif isKs (AV.slz sK) && (decide (w' = w' ∧ m' = m') && invB w' m' us (IntKind.i64.wrap ((↑i : Int) + (1 : Int))) [] out) then bif isV (runU w' m' us (us.length - (IntKind.i64.wrap ((↑i : Int) + (1 : Int))).toNat) (AV.slz sK) out).fst then k (Ex.exit (2 : Nat)) [AV.int IntKind.i64 w', AV.int IntKind.i64 m', AV.slv (Sh.agg [Sh.int IntKind.i64, Sh.int IntKind.i64]) us, AV.bool false, AV.ptr (195 : Nat) (0 : Nat), AV.own (900 : Nat), AV.int IntKind.i64 (↑us.length : Int)] [some (Row.box false [AV.int IntKind.i64 w', AV.int IntKind.i64 m', AV.slv (Sh.agg [Sh.str, (Sh.agg [Sh.int IntKind.i64, Sh.int IntKind.i64]).slice]) (kOf (runU w' m' us (us.length - (IntKind.i64.wrap ((↑i : Int) + (1 : Int))).toNat) (AV.slz sK) out).fst)]), some (Row.arr false (Sh.agg [Sh.int IntKind.i64, Sh.int IntKind.i64]) (36 : Nat) (runU w' m' us (us.length - (IntKind.i64.wrap ((↑i : Int) + (1 : Int))).toNat) (AV.slz sK) out).snd none)] else k (Ex.exit (2 : Nat)) [AV.int IntKind.i64 w', AV.int IntKind.i64 m', AV.slv (Sh.agg [Sh.int IntKind.i64, Sh.int IntKind.i64]) us, AV.bool false, AV.ptr (195 : Nat) (0 : Nat), AV.own (900 : Nat), AV.int IntKind.i64 (↑us.length : Int)] [some (Row.box false [AV.int IntKind.i64 w', AV.int IntKind.i64 m', AV.slz (Sh.agg [Sh.str, (Sh.agg [Sh.int IntKind.i64, Sh.int IntKind.i64]).slice])]), some (Row.arr false (Sh.agg [Sh.int IntKind.i64, Sh.int IntKind.i64]) (36 : Nat) (runU w' m' us (us.length - (IntKind.i64.wrap ((↑i : Int) + (1 : Int))).toNat) (AV.slz sK) out).snd none)] else none else none else bif (allowP w' m' [] ([(107 : UInt8)] : List UInt8) ((us.getD i AV.unk).cells.tail.headD AV.unk).toInt ((us.getD i AV.unk).cells.headD AV.unk).toInt).ok then bif inb (↑i : Int) us.length then bif roomB (out.length + [AV.agg [AV.int IntKind.i64 ((us.getD i AV.unk).cells.headD AV.unk).toInt, AV.int IntKind.i64 ((us.getD i AV.unk).cells.tail.headD AV.unk).toInt]].length) (Try.prog.bytesOf (36 : Nat)) then bif decide (((↑us.length : Int) - IntKind.i64.wrap ((↑i : Int) + (1 : Int))).toNat < ((↑us.length : Int) - (↑i : Int)).toNat) then bif isKs (AV.slv sK (allowP w' m' [] ([(107 : UInt8)] : List UInt8) ((us.getD i AV.unk).cells.tail.headD AV.unk).toInt ((us.getD i AV.unk).cells.headD AV.unk).toInt).ks) && (decide ((allowP w' m' [] ([(107 : UInt8)] : List UInt8) ((us.getD i AV.unk).cells.tail.headD AV.unk).toInt ((us.getD i AV.unk).cells.headD AV.unk).toInt).w = w' ∧ (allowP w' m' [] ([(107 : UInt8)] : List UInt8) ((us.getD i AV.unk).cells.tail.headD AV.unk).toInt ((us.getD i AV.unk).cells.headD AV.unk).toInt).m = m') && invB w' m' us (IntKind.i64.wrap ((↑i : Int) + (1 : Int))) (kOf (AV.slv sK (allowP w' m' [] ([(107 : UInt8)] : List UInt8) ((us.getD i AV.unk).cells.tail.headD AV.unk).toInt ((us.getD i AV.unk).cells.headD AV.unk).toInt).ks)) (out ++ [AV.agg [AV.int IntKind.i64 ((us.getD i AV.unk).cells.headD AV.unk).toInt, AV.int IntKind.i64 ((us.getD i AV.unk).cells.tail.headD AV.unk).toInt]])) then bif isV (runU w' m' us (us.length - (IntKind.i64.wrap ((↑i : Int) + (1 : Int))).toNat) (AV.slv sK (allowP w' m' [] ([(107 : UInt8)] : List UInt8) ((us.getD i AV.unk).cells.tail.headD AV.unk).toInt ((us.getD i AV.unk).cells.headD AV.unk).toInt).ks) (out ++ [AV.agg [AV.int IntKind.i64 ((us.getD i AV.unk).cells.headD AV.unk).toInt, AV.int IntKind.i64 ((us.getD i AV.unk).cells.tail.headD AV.unk).toInt]])).fst then k (Ex.exit (2 : Nat)) [AV.int IntKind.i64 w', AV.int IntKind.i64 m', AV.slv (Sh.agg [Sh.int IntKind.i64, Sh.int IntKind.i64]) us, AV.bool false, AV.ptr (195 : Nat) (0 : Nat), AV.own (900 : Nat), AV.int IntKind.i64 (↑us.length : Int)] [some (Row.box false [AV.int IntKind.i64 w', AV.int IntKind.i64 m', AV.slv (Sh.agg [Sh.str, (Sh.agg [Sh.int IntKind.i64, Sh.int IntKind.i64]).slice]) (kOf (runU w' m' us (us.length - (IntKind.i64.wrap ((↑i : Int) + (1 : Int))).toNat) (AV.slv sK (allowP w' m' [] ([(107 : UInt8)] : List UInt8) ((us.getD i AV.unk).cells.tail.headD AV.unk).toInt ((us.getD i AV.unk).cells.headD AV.unk).toInt).ks) (out ++ [AV.agg [AV.int IntKind.i64 ((us.getD i AV.unk).cells.headD AV.unk).toInt, AV.int IntKind.i64 ((us.getD i AV.unk).cells.tail.headD AV.unk).toInt]])).fst)]), some (Row.arr false (Sh.agg [Sh.int IntKind.i64, Sh.int IntKind.i64]) (36 : Nat) (runU w' m' us (us.length - (IntKind.i64.wrap ((↑i : Int) + (1 : Int))).toNat) (AV.slv sK (allowP w' m' [] ([(107 : UInt8)] : List UInt8) ((us.getD i AV.unk).cells.tail.headD AV.unk).toInt ((us.getD i AV.unk).cells.headD AV.unk).toInt).ks) (out ++ [AV.agg [AV.int IntKind.i64 ((us.getD i AV.unk).cells.headD AV.unk).toInt, AV.int IntKind.i64 ((us.getD i AV.unk).cells.tail.headD AV.unk).toInt]])).snd none)] else k (Ex.exit (2 : Nat)) [AV.int IntKind.i64 w', AV.int IntKind.i64 m', AV.slv (Sh.agg [Sh.int IntKind.i64, Sh.int IntKind.i64]) us, AV.bool false, AV.ptr (195 : Nat) (0 : Nat), AV.own (900 : Nat), AV.int IntKind.i64 (↑us.length : Int)] [some (Row.box false [AV.int IntKind.i64 w', AV.int IntKind.i64 m', AV.slz (Sh.agg [Sh.str, (Sh.agg [Sh.int IntKind.i64, Sh.int IntKind.i64]).slice])]), some (Row.arr false (Sh.agg [Sh.int IntKind.i64, Sh.int IntKind.i64]) (36 : Nat) (runU w' m' us (us.length - (IntKind.i64.wrap ((↑i : Int) + (1 : Int))).toNat) (AV.slv sK (allowP w' m' [] ([(107 : UInt8)] : List UInt8) ((us.getD i AV.unk).cells.tail.headD AV.unk).toInt ((us.getD i AV.unk).cells.headD AV.unk).toInt).ks) (out ++ [AV.agg [AV.int IntKind.i64 ((us.getD i AV.unk).cells.headD AV.unk).toInt, AV.int IntKind.i64 ((us.getD i AV.unk).cells.tail.headD AV.unk).toInt]])).snd none)] else none else none else none else none else bif decide (((↑us.length : Int) - IntKind.i64.wrap ((↑i : Int) + (1 : Int))).toNat < ((↑us.length : Int) - (↑i : Int)).toNat) then bif isKs (AV.slv sK (allowP w' m' [] ([(107 : UInt8)] : List UInt8) ((us.getD i AV.unk).cells.tail.headD AV.unk).toInt ((us.getD i AV.unk).cells.headD AV.unk).toInt).ks) && (decide ((allowP w' m' [] ([(107 : UInt8)] : List UInt8) ((us.getD i AV.unk).cells.tail.headD AV.unk).toInt ((us.getD i AV.unk).cells.headD AV.unk).toInt).w = w' ∧ (allowP w' m' [] ([(107 : UInt8)] : List UInt8) ((us.getD i AV.unk).cells.tail.headD AV.unk).toInt ((us.getD i AV.unk).cells.headD AV.unk).toInt).m = m') && invB w' m' us (IntKind.i64.wrap ((↑i : Int) + (1 : Int))) (kOf (AV.slv sK (allowP w' m' [] ([(107 : UInt8)] : List UInt8) ((us.getD i AV.unk).cells.tail.headD AV.unk).toInt ((us.getD i AV.unk).cells.headD AV.unk).toInt).ks)) out) then bif isV (runU w' m' us (us.length - (IntKind.i64.wrap ((↑i : Int) + (1 : Int))).toNat) (AV.slv sK (allowP w' m' [] ([(107 : UInt8)] : List UInt8) ((us.getD i AV.unk).cells.tail.headD AV.unk).toInt ((us.getD i AV.unk).cells.headD AV.unk).toInt).ks) out).fst then k (Ex.exit (2 : Nat)) [AV.int IntKind.i64 w', AV.int IntKind.i64 m', AV.slv (Sh.agg [Sh.int IntKind.i64, Sh.int IntKind.i64]) us, AV.bool false, AV.ptr (195 : Nat) (0 : Nat), AV.own (900 : Nat), AV.int IntKind.i64 (↑us.length : Int)] [some (Row.box false [AV.int IntKind.i64 w', AV.int IntKind.i64 m', AV.slv (Sh.agg [Sh.str, (Sh.agg [Sh.int IntKind.i64, Sh.int IntKind.i64]).slice]) (kOf (runU w' m' us (us.length - (IntKind.i64.wrap ((↑i : Int) + (1 : Int))).toNat) (AV.slv sK (allowP w' m' [] ([(107 : UInt8)] : List UInt8) ((us.getD i AV.unk).cells.tail.headD AV.unk).toInt ((us.getD i AV.unk).cells.headD AV.unk).toInt).ks) out).fst)]), some (Row.arr false (Sh.agg [Sh.int IntKind.i64, Sh.int IntKind.i64]) (36 : Nat) (runU w' m' us (us.length - (IntKind.i64.wrap ((↑i : Int) + (1 : Int))).toNat) (AV.slv sK (allowP w' m' [] ([(107 : UInt8)] : List UInt8) ((us.getD i AV.unk).cells.tail.headD AV.unk).toInt ((us.getD i AV.unk).cells.headD AV.unk).toInt).ks) out).snd none)] else k (Ex.exit (2 : Nat)) [AV.int IntKind.i64 w', AV.int IntKind.i64 m', AV.slv (Sh.agg [Sh.int IntKind.i64, Sh.int IntKind.i64]) us, AV.bool false, AV.ptr (195 : Nat) (0 : Nat), AV.own (900 : Nat), AV.int IntKind.i64 (↑us.length : Int)] [some (Row.box false [AV.int IntKind.i64 w', AV.int IntKind.i64 m', AV.slz (Sh.agg [Sh.str, (Sh.agg [Sh.int IntKind.i64, Sh.int IntKind.i64]).slice])]), some (Row.arr false (Sh.agg [Sh.int IntKind.i64, Sh.int IntKind.i64]) (36 : Nat) (runU w' m' us (us.length - (IntKind.i64.wrap ((↑i : Int) + (1 : Int))).toNat) (AV.slv sK (allowP w' m' [] ([(107 : UInt8)] : List UInt8) ((us.getD i AV.unk).cells.tail.headD AV.unk).toInt ((us.getD i AV.unk).cells.headD AV.unk).toInt).ks) out).snd none)] else none else none else none else none else k (Ex.exit (2 : Nat)) [AV.int IntKind.i64 w', AV.int IntKind.i64 m', AV.slv (Sh.agg [Sh.int IntKind.i64, Sh.int IntKind.i64]) us, AV.bool false, AV.ptr (195 : Nat) (0 : Nat), AV.own (900 : Nat), AV.int IntKind.i64 (↑i : Int)] [some (Row.box false [AV.int IntKind.i64 w', AV.int IntKind.i64 m', AV.slz (Sh.agg [Sh.str, (Sh.agg [Sh.int IntKind.i64, Sh.int IntKind.i64]).slice])]), some (Row.arr false (Sh.agg [Sh.int IntKind.i64, Sh.int IntKind.i64]) (36 : Nat) out none)]) (by kernel_rfl) ?_
      rw [← hk]
      by_cases hlt : i < us.length
      · have e1 : IntKind.i64.wrap ((i : Int) + 1) = ((i + 1 : Nat) : Int) := by
          have := I.hl
          rw [wrap_mid _ (by omega) (by omega)]; omega
        have hl60 := I.hl
        have hlen := I.len
        have i1 : inb (i : Int) us.length = true := inb_true (by omega) (by omega)
        have hroom : roomB (out.length + [uE (us.getD i .unk)].length) (Try.prog.bytesOf 36) = true := roomB_small (by show out.length + 1 ≤ _; omega) byU
        have hdec : decide (((us.length : Int) - ((i + 1 : Nat) : Int)).toNat < ((us.length : Int) - (i : Int)).toNat) = true := decide_eq_true (by omega)
        obtain ⟨a, ha⟩ : ∃ a, a = allowP w' m' ([] : List AV) kk (uN (us.getD i .unk)) (uA (us.getD i .unk)) := ⟨_, rfl⟩
        have ha' : allowP w' m' ([] : List AV) [107] ((us.getD i .unk).cells.tail.headD .unk).toInt ((us.getD i .unk).cells.headD .unk).toInt = a := ha.symm
        have I : Inv w' m' us i ([] : List AV) out := I
        have h1 := I.one hlt
        rw [← ha] at h1
        rw [runU_step _ _ _ hlt, decide_eq_true (by omega : (i : Int) < (us.length : Int)), e1, i1, hdec, Int.toNat_natCast, ha']
        rw [show allowP w' m' (kOf (.slz sK)) kk (uN (us.getD i .unk)) (uA (us.getD i .unk)) = a from ha.symm]
        show (bif a.f.1 != 0 then _ else bif a.ok then _ else _) = _
        rcases h1 with h | ⟨h, hw, hm, _, h2⟩
        · rw [h]
          exact Eq.trans (cond_t rfl) (Eq.trans (cond_t rfl) (cond_t (and_t rfl (and_t (decide_eq_true ⟨rfl, rfl⟩) (invB_of (I.skip hlt))))))
        · rw [h, hw, hm]
          cases hok : a.ok
          · rw [hok] at h2
            exact Eq.trans (cond_f rfl) (Eq.trans (cond_f rfl) (Eq.trans (cond_t rfl) (cond_t (and_t rfl (and_t (decide_eq_true ⟨rfl, rfl⟩) (invB_of h2))))))
          · rw [hok] at h2
            exact Eq.trans (cond_f rfl) (Eq.trans (cond_t rfl) (Eq.trans (cond_t rfl) (Eq.trans (cond_t hroom) (Eq.trans (cond_t rfl) (cond_t (and_t rfl (and_t (decide_eq_true ⟨rfl, rfl⟩) (invB_of h2))))))))
      · have := I.hi
        obtain rfl : i = us.length := by omega
        rw [decide_eq_false (by omega), show us.length - us.length = 0 from by omega]
        rfl
    · refine Eq.trans (b := bif decide ((↑i : Int) < (↑us.length : Int)) then bif inb (↑i : Int) us.length then bif inb (↑i : Int) us.length then bif canK ks then bif (allowP w' m' ks ([(107 : UInt8)] : List UInt8) ((us.getD i AV.unk).cells.tail.headD AV.unk).toInt ((us.getD i AV.unk).cells.headD AV.unk).toInt).f.fst != (0 : Int) then bif decide (((↑us.length : Int) - IntKind.i64.wrap ((↑i : Int) + (1 : Int))).toNat < ((↑us.length : Int) - (↑i : Int)).toNat) then bif isKs (AV.slv sK ks) && (decide (w' = w' ∧ m' = m') && invB w' m' us (IntKind.i64.wrap ((↑i : Int) + (1 : Int))) (kOf (AV.slv sK ks)) out) then bif isV (runU w' m' us (us.length - (IntKind.i64.wrap ((↑i : Int) + (1 : Int))).toNat) (AV.slv sK ks) out).fst then k (Ex.exit (2 : Nat)) [AV.int IntKind.i64 w', AV.int IntKind.i64 m', AV.slv (Sh.agg [Sh.int IntKind.i64, Sh.int IntKind.i64]) us, AV.bool false, AV.ptr (195 : Nat) (0 : Nat), AV.own (900 : Nat), AV.int IntKind.i64 (↑us.length : Int)] [some (Row.box false [AV.int IntKind.i64 w', AV.int IntKind.i64 m', AV.slv (Sh.agg [Sh.str, (Sh.agg [Sh.int IntKind.i64, Sh.int IntKind.i64]).slice]) (kOf (runU w' m' us (us.length - (IntKind.i64.wrap ((↑i : Int) + (1 : Int))).toNat) (AV.slv sK ks) out).fst)]), some (Row.arr false (Sh.agg [Sh.int IntKind.i64, Sh.int IntKind.i64]) (36 : Nat) (runU w' m' us (us.length - (IntKind.i64.wrap ((↑i : Int) + (1 : Int))).toNat) (AV.slv sK ks) out).snd none)] else k (Ex.exit (2 : Nat)) [AV.int IntKind.i64 w', AV.int IntKind.i64 m', AV.slv (Sh.agg [Sh.int IntKind.i64, Sh.int IntKind.i64]) us, AV.bool false, AV.ptr (195 : Nat) (0 : Nat), AV.own (900 : Nat), AV.int IntKind.i64 (↑us.length : Int)] [some (Row.box false [AV.int IntKind.i64 w', AV.int IntKind.i64 m', AV.slz (Sh.agg [Sh.str, (Sh.agg [Sh.int IntKind.i64, Sh.int IntKind.i64]).slice])]), some (Row.arr false (Sh.agg [Sh.int IntKind.i64, Sh.int IntKind.i64]) (36 : Nat) (runU w' m' us (us.length - (IntKind.i64.wrap ((↑i : Int) + (1 : Int))).toNat) (AV.slv sK ks) out).snd none)] else none else none else bif (allowP w' m' ks ([(107 : UInt8)] : List UInt8) ((us.getD i AV.unk).cells.tail.headD AV.unk).toInt ((us.getD i AV.unk).cells.headD AV.unk).toInt).ok then bif inb (↑i : Int) us.length then bif roomB (out.length + [AV.agg [AV.int IntKind.i64 ((us.getD i AV.unk).cells.headD AV.unk).toInt, AV.int IntKind.i64 ((us.getD i AV.unk).cells.tail.headD AV.unk).toInt]].length) (Try.prog.bytesOf (36 : Nat)) then bif decide (((↑us.length : Int) - IntKind.i64.wrap ((↑i : Int) + (1 : Int))).toNat < ((↑us.length : Int) - (↑i : Int)).toNat) then bif isKs (AV.slv sK (allowP w' m' ks ([(107 : UInt8)] : List UInt8) ((us.getD i AV.unk).cells.tail.headD AV.unk).toInt ((us.getD i AV.unk).cells.headD AV.unk).toInt).ks) && (decide ((allowP w' m' ks ([(107 : UInt8)] : List UInt8) ((us.getD i AV.unk).cells.tail.headD AV.unk).toInt ((us.getD i AV.unk).cells.headD AV.unk).toInt).w = w' ∧ (allowP w' m' ks ([(107 : UInt8)] : List UInt8) ((us.getD i AV.unk).cells.tail.headD AV.unk).toInt ((us.getD i AV.unk).cells.headD AV.unk).toInt).m = m') && invB w' m' us (IntKind.i64.wrap ((↑i : Int) + (1 : Int))) (kOf (AV.slv sK (allowP w' m' ks ([(107 : UInt8)] : List UInt8) ((us.getD i AV.unk).cells.tail.headD AV.unk).toInt ((us.getD i AV.unk).cells.headD AV.unk).toInt).ks)) (out ++ [AV.agg [AV.int IntKind.i64 ((us.getD i AV.unk).cells.headD AV.unk).toInt, AV.int IntKind.i64 ((us.getD i AV.unk).cells.tail.headD AV.unk).toInt]])) then bif isV (runU w' m' us (us.length - (IntKind.i64.wrap ((↑i : Int) + (1 : Int))).toNat) (AV.slv sK (allowP w' m' ks ([(107 : UInt8)] : List UInt8) ((us.getD i AV.unk).cells.tail.headD AV.unk).toInt ((us.getD i AV.unk).cells.headD AV.unk).toInt).ks) (out ++ [AV.agg [AV.int IntKind.i64 ((us.getD i AV.unk).cells.headD AV.unk).toInt, AV.int IntKind.i64 ((us.getD i AV.unk).cells.tail.headD AV.unk).toInt]])).fst then k (Ex.exit (2 : Nat)) [AV.int IntKind.i64 w', AV.int IntKind.i64 m', AV.slv (Sh.agg [Sh.int IntKind.i64, Sh.int IntKind.i64]) us, AV.bool false, AV.ptr (195 : Nat) (0 : Nat), AV.own (900 : Nat), AV.int IntKind.i64 (↑us.length : Int)] [some (Row.box false [AV.int IntKind.i64 w', AV.int IntKind.i64 m', AV.slv (Sh.agg [Sh.str, (Sh.agg [Sh.int IntKind.i64, Sh.int IntKind.i64]).slice]) (kOf (runU w' m' us (us.length - (IntKind.i64.wrap ((↑i : Int) + (1 : Int))).toNat) (AV.slv sK (allowP w' m' ks ([(107 : UInt8)] : List UInt8) ((us.getD i AV.unk).cells.tail.headD AV.unk).toInt ((us.getD i AV.unk).cells.headD AV.unk).toInt).ks) (out ++ [AV.agg [AV.int IntKind.i64 ((us.getD i AV.unk).cells.headD AV.unk).toInt, AV.int IntKind.i64 ((us.getD i AV.unk).cells.tail.headD AV.unk).toInt]])).fst)]), some (Row.arr false (Sh.agg [Sh.int IntKind.i64, Sh.int IntKind.i64]) (36 : Nat) (runU w' m' us (us.length - (IntKind.i64.wrap ((↑i : Int) + (1 : Int))).toNat) (AV.slv sK (allowP w' m' ks ([(107 : UInt8)] : List UInt8) ((us.getD i AV.unk).cells.tail.headD AV.unk).toInt ((us.getD i AV.unk).cells.headD AV.unk).toInt).ks) (out ++ [AV.agg [AV.int IntKind.i64 ((us.getD i AV.unk).cells.headD AV.unk).toInt, AV.int IntKind.i64 ((us.getD i AV.unk).cells.tail.headD AV.unk).toInt]])).snd none)] else k (Ex.exit (2 : Nat)) [AV.int IntKind.i64 w', AV.int IntKind.i64 m', AV.slv (Sh.agg [Sh.int IntKind.i64, Sh.int IntKind.i64]) us, AV.bool false, AV.ptr (195 : Nat) (0 : Nat), AV.own (900 : Nat), AV.int IntKind.i64 (↑us.length : Int)] [some (Row.box false [AV.int IntKind.i64 w', AV.int IntKind.i64 m', AV.slz (Sh.agg [Sh.str, (Sh.agg [Sh.int IntKind.i64, Sh.int IntKind.i64]).slice])]), some (Row.arr false (Sh.agg [Sh.int IntKind.i64, Sh.int IntKind.i64]) (36 : Nat) (runU w' m' us (us.length - (IntKind.i64.wrap ((↑i : Int) + (1 : Int))).toNat) (AV.slv sK (allowP w' m' ks ([(107 : UInt8)] : List UInt8) ((us.getD i AV.unk).cells.tail.headD AV.unk).toInt ((us.getD i AV.unk).cells.headD AV.unk).toInt).ks) (out ++ [AV.agg [AV.int IntKind.i64 ((us.getD i AV.unk).cells.headD AV.unk).toInt, AV.int IntKind.i64 ((us.getD i AV.unk).cells.tail.headD AV.unk).toInt]])).snd none)] else none else none else none else none else bif decide (((↑us.length : Int) - IntKind.i64.wrap ((↑i : Int) + (1 : Int))).toNat < ((↑us.length : Int) - (↑i : Int)).toNat) then bif isKs (AV.slv sK (allowP w' m' ks ([(107 : UInt8)] : List UInt8) ((us.getD i AV.unk).cells.tail.headD AV.unk).toInt ((us.getD i AV.unk).cells.headD AV.unk).toInt).ks) && (decide ((allowP w' m' ks ([(107 : UInt8)] : List UInt8) ((us.getD i AV.unk).cells.tail.headD AV.unk).toInt ((us.getD i AV.unk).cells.headD AV.unk).toInt).w = w' ∧ (allowP w' m' ks ([(107 : UInt8)] : List UInt8) ((us.getD i AV.unk).cells.tail.headD AV.unk).toInt ((us.getD i AV.unk).cells.headD AV.unk).toInt).m = m') && invB w' m' us (IntKind.i64.wrap ((↑i : Int) + (1 : Int))) (kOf (AV.slv sK (allowP w' m' ks ([(107 : UInt8)] : List UInt8) ((us.getD i AV.unk).cells.tail.headD AV.unk).toInt ((us.getD i AV.unk).cells.headD AV.unk).toInt).ks)) out) then bif isV (runU w' m' us (us.length - (IntKind.i64.wrap ((↑i : Int) + (1 : Int))).toNat) (AV.slv sK (allowP w' m' ks ([(107 : UInt8)] : List UInt8) ((us.getD i AV.unk).cells.tail.headD AV.unk).toInt ((us.getD i AV.unk).cells.headD AV.unk).toInt).ks) out).fst then k (Ex.exit (2 : Nat)) [AV.int IntKind.i64 w', AV.int IntKind.i64 m', AV.slv (Sh.agg [Sh.int IntKind.i64, Sh.int IntKind.i64]) us, AV.bool false, AV.ptr (195 : Nat) (0 : Nat), AV.own (900 : Nat), AV.int IntKind.i64 (↑us.length : Int)] [some (Row.box false [AV.int IntKind.i64 w', AV.int IntKind.i64 m', AV.slv (Sh.agg [Sh.str, (Sh.agg [Sh.int IntKind.i64, Sh.int IntKind.i64]).slice]) (kOf (runU w' m' us (us.length - (IntKind.i64.wrap ((↑i : Int) + (1 : Int))).toNat) (AV.slv sK (allowP w' m' ks ([(107 : UInt8)] : List UInt8) ((us.getD i AV.unk).cells.tail.headD AV.unk).toInt ((us.getD i AV.unk).cells.headD AV.unk).toInt).ks) out).fst)]), some (Row.arr false (Sh.agg [Sh.int IntKind.i64, Sh.int IntKind.i64]) (36 : Nat) (runU w' m' us (us.length - (IntKind.i64.wrap ((↑i : Int) + (1 : Int))).toNat) (AV.slv sK (allowP w' m' ks ([(107 : UInt8)] : List UInt8) ((us.getD i AV.unk).cells.tail.headD AV.unk).toInt ((us.getD i AV.unk).cells.headD AV.unk).toInt).ks) out).snd none)] else k (Ex.exit (2 : Nat)) [AV.int IntKind.i64 w', AV.int IntKind.i64 m', AV.slv (Sh.agg [Sh.int IntKind.i64, Sh.int IntKind.i64]) us, AV.bool false, AV.ptr (195 : Nat) (0 : Nat), AV.own (900 : Nat), AV.int IntKind.i64 (↑us.length : Int)] [some (Row.box false [AV.int IntKind.i64 w', AV.int IntKind.i64 m', AV.slz (Sh.agg [Sh.str, (Sh.agg [Sh.int IntKind.i64, Sh.int IntKind.i64]).slice])]), some (Row.arr false (Sh.agg [Sh.int IntKind.i64, Sh.int IntKind.i64]) (36 : Nat) (runU w' m' us (us.length - (IntKind.i64.wrap ((↑i : Int) + (1 : Int))).toNat) (AV.slv sK (allowP w' m' ks ([(107 : UInt8)] : List UInt8) ((us.getD i AV.unk).cells.tail.headD AV.unk).toInt ((us.getD i AV.unk).cells.headD AV.unk).toInt).ks) out).snd none)] else none else none else none else none else none else k (Ex.exit (2 : Nat)) [AV.int IntKind.i64 w', AV.int IntKind.i64 m', AV.slv (Sh.agg [Sh.int IntKind.i64, Sh.int IntKind.i64]) us, AV.bool false, AV.ptr (195 : Nat) (0 : Nat), AV.own (900 : Nat), AV.int IntKind.i64 (↑i : Int)] [some (Row.box false [AV.int IntKind.i64 w', AV.int IntKind.i64 m', AV.slv (Sh.agg [Sh.str, (Sh.agg [Sh.int IntKind.i64, Sh.int IntKind.i64]).slice]) ks]), some (Row.arr false (Sh.agg [Sh.int IntKind.i64, Sh.int IntKind.i64]) (36 : Nat) out none)]) (by kernel_rfl) ?_
      rw [← hk]
      by_cases hlt : i < us.length
      · have e1 : IntKind.i64.wrap ((i : Int) + 1) = ((i + 1 : Nat) : Int) := by
          have := I.hl
          rw [wrap_mid _ (by omega) (by omega)]; omega
        have hl60 := I.hl
        have hlen := I.len
        have i1 : inb (i : Int) us.length = true := inb_true (by omega) (by omega)
        have hroom : roomB (out.length + [uE (us.getD i .unk)].length) (Try.prog.bytesOf 36) = true := roomB_small (by show out.length + 1 ≤ _; omega) byU
        have hdec : decide (((us.length : Int) - ((i + 1 : Nat) : Int)).toNat < ((us.length : Int) - (i : Int)).toNat) = true := decide_eq_true (by omega)
        obtain ⟨a, ha⟩ : ∃ a, a = allowP w' m' ks kk (uN (us.getD i .unk)) (uA (us.getD i .unk)) := ⟨_, rfl⟩
        have ha' : allowP w' m' ks [107] ((us.getD i .unk).cells.tail.headD .unk).toInt ((us.getD i .unk).cells.headD .unk).toInt = a := ha.symm
        have I : Inv w' m' us i ks out := I
        have h1 := I.one hlt
        rw [← ha] at h1
        rw [runU_step _ _ _ hlt, decide_eq_true (by omega : (i : Int) < (us.length : Int)), e1, i1, hdec, Int.toNat_natCast, ha', I.gd.hcan.canK]
        rw [show allowP w' m' (kOf (.slv sK ks)) kk (uN (us.getD i .unk)) (uA (us.getD i .unk)) = a from ha.symm]
        show (bif a.f.1 != 0 then _ else bif a.ok then _ else _) = _
        rcases h1 with h | ⟨h, hw, hm, _, h2⟩
        · rw [h]
          exact Eq.trans (cond_t rfl) (Eq.trans (cond_t rfl) (cond_t (and_t rfl (and_t (decide_eq_true ⟨rfl, rfl⟩) (invB_of (I.skip hlt))))))
        · rw [h, hw, hm]
          cases hok : a.ok
          · rw [hok] at h2
            exact Eq.trans (cond_f rfl) (Eq.trans (cond_f rfl) (Eq.trans (cond_t rfl) (cond_t (and_t rfl (and_t (decide_eq_true ⟨rfl, rfl⟩) (invB_of h2))))))
          · rw [hok] at h2
            exact Eq.trans (cond_f rfl) (Eq.trans (cond_t rfl) (Eq.trans (cond_t rfl) (Eq.trans (cond_t hroom) (Eq.trans (cond_t rfl) (cond_t (and_t rfl (and_t (decide_eq_true ⟨rfl, rfl⟩) (invB_of h2))))))))
      · have := I.hi
        obtain rfl : i = us.length := by omega
        rw [decide_eq_false (by omega), show us.length - us.length = 0 from by omega]
        rfl
  · cases h
theorem loop4d : LoopOK Try.prog GL [(6, a4), (11, l4b), (19, l4c), (23, l4d)] b4d l4d := by
  refine loopT gl.natOK rfl (KOK.nil (by kernel_rfl)) μ4d (fun ρ vs rs k r h => ?_)
  unfold D4 at h
  split at h
  · rename_i w m i' s q' out
    obtain ⟨hc, hk⟩ := gd_some h
    obtain ⟨d1, d2, d3, d4, d5⟩ := of_decide_eq_true hc
    obtain ⟨i, rfl⟩ : ∃ i : Nat, i' = i := ⟨i'.toNat, by omega⟩
    obtain ⟨q, rfl⟩ : ∃ q : Nat, q' = q := ⟨q'.toNat, by omega⟩
    rw [Int.toNat_natCast, Int.toNat_natCast] at hk
    refine Eq.trans (b := bif decide ((↑q : Int) < (↑out.length : Int)) then bif inb (↑q : Int) out.length then bif decide (q < out.length) then bif inb (↑i : Int) out.length then bif decide (i < out.length) then bif inR (IntKind.i64.wrap (((out.getD q AV.unk).cells.headD AV.unk).toInt - ((out.getD i AV.unk).cells.headD AV.unk).toInt)) (0 : Int) (IntKind.i64.wrap (w - (1 : Int))) then bif inb (↑q : Int) out.length then bif decide (q < out.length) then bif decide (((↑out.length : Int) - IntKind.i64.wrap ((↑q : Int) + (1 : Int))).toNat < ((↑out.length : Int) - (↑q : Int)).toNat) then bif decide ((0 : Int) ≤ (↑i : Int) ∧ (↑i : Int) < (↑out.length : Int) ∧ (0 : Int) ≤ IntKind.i64.wrap ((↑q : Int) + (1 : Int)) ∧ IntKind.i64.wrap ((↑q : Int) + (1 : Int)) ≤ (↑out.length : Int) ∧ out.length ≤ (60 : Nat)) then k (Ex.exit (6 : Nat)) [AV.int IntKind.i64 w, AV.int IntKind.i64 m, AV.bool false, AV.own (900 : Nat), AV.int IntKind.i64 (↑i : Int), AV.int IntKind.i64 (sumP (inB w (uA (out.getD i AV.unk))) (IntKind.i64.wrap (s + ((out.getD q AV.unk).cells.tail.headD AV.unk).toInt)) (List.drop (IntKind.i64.wrap ((↑q : Int) + (1 : Int))).toNat out)), AV.int IntKind.i64 (↑out.length : Int)] [some (Row.arr false (Sh.agg [Sh.int IntKind.i64, Sh.int IntKind.i64]) (36 : Nat) out none)] else none else none else none else none else bif decide (((↑out.length : Int) - IntKind.i64.wrap ((↑q : Int) + (1 : Int))).toNat < ((↑out.length : Int) - (↑q : Int)).toNat) then bif decide ((0 : Int) ≤ (↑i : Int) ∧ (↑i : Int) < (↑out.length : Int) ∧ (0 : Int) ≤ IntKind.i64.wrap ((↑q : Int) + (1 : Int)) ∧ IntKind.i64.wrap ((↑q : Int) + (1 : Int)) ≤ (↑out.length : Int) ∧ out.length ≤ (60 : Nat)) then k (Ex.exit (6 : Nat)) [AV.int IntKind.i64 w, AV.int IntKind.i64 m, AV.bool false, AV.own (900 : Nat), AV.int IntKind.i64 (↑i : Int), AV.int IntKind.i64 (sumP (inB w (uA (out.getD i AV.unk))) s (List.drop (IntKind.i64.wrap ((↑q : Int) + (1 : Int))).toNat out)), AV.int IntKind.i64 (↑out.length : Int)] [some (Row.arr false (Sh.agg [Sh.int IntKind.i64, Sh.int IntKind.i64]) (36 : Nat) out none)] else none else none else none else none else none else none else k (Ex.exit (6 : Nat)) [AV.int IntKind.i64 w, AV.int IntKind.i64 m, AV.bool false, AV.own (900 : Nat), AV.int IntKind.i64 (↑i : Int), AV.int IntKind.i64 s, AV.int IntKind.i64 (↑q : Int)] [some (Row.arr false (Sh.agg [Sh.int IntKind.i64, Sh.int IntKind.i64]) (36 : Nat) out none)]) (by kernel_rfl) ?_
    rw [← hk]
    by_cases hlt : q < out.length
    · have e1 : IntKind.i64.wrap ((q : Int) + 1) = ((q + 1 : Nat) : Int) := by rw [wrap_mid _ (by omega) (by omega)]; omega
      have i1 : inb (q : Int) out.length = true := inb_true (by omega) (by omega)
      have i2 : inb (i : Int) out.length = true := inb_true (by omega) (by omega)
      have hg : decide ((0 : Int) ≤ (i : Int) ∧ (i : Int) < (out.length : Int) ∧ (0 : Int) ≤ ((q + 1 : Nat) : Int) ∧ ((q + 1 : Nat) : Int) ≤ (out.length : Int) ∧ out.length ≤ 60) = true := decide_eq_true ⟨by omega, by omega, by omega, by omega, by omega⟩
      have hdec : decide (((out.length : Int) - ((q + 1 : Nat) : Int)).toNat < ((out.length : Int) - (q : Int)).toNat) = true := decide_eq_true (by omega)
      rw [e1, i1, i2, hdec, hg, drop_getD hlt, sumP_cons, decide_eq_true (by omega : (q : Int) < (out.length : Int)), Int.toNat_natCast, decide_eq_true hlt, decide_eq_true (by omega : i < out.length)]
      show (bif inB w (uA (out.getD i .unk)) (out.getD q .unk) then _ else _) = _
      cases inB w (uA (out.getD i .unk)) (out.getD q .unk) <;> rfl
    · obtain rfl : q = out.length := by omega
      rw [decide_eq_false (by omega), List.drop_length]
      rfl
  · cases h
theorem loop4c : LoopOK Try.prog GL [(6, a4), (11, l4b), (19, l4c), (23, l4d)] b4c l4c := by
  refine loopT gl.natOK rfl (KOK.one (by kernel_rfl) (by kernel_rfl) loop4d) μ4c (fun ρ vs rs k r h => ?_)
  unfold C4 at h
  split at h
  · rename_i w m i' out
    obtain ⟨hc, hk⟩ := gd_some h
    obtain ⟨d1, d2, d3⟩ := of_decide_eq_true hc
    obtain ⟨i, rfl⟩ : ∃ i : Nat, i' = i := ⟨i'.toNat, by omega⟩
    rw [Int.toNat_natCast] at hk
    refine Eq.trans (b := bif decide ((↑i : Int) < (↑out.length : Int)) then bif decide ((0 : Int) ≤ (↑i : Int) ∧ (↑i : Int) < (↑out.length : Int) ∧ (0 : Int) ≤ (0 : Int) ∧ (0 : Int) ≤ (↑out.length : Int) ∧ out.length ≤ (60 : Nat)) then bif decide (sumP (inB w (uA (out.getD i AV.unk))) (0 : Int) (List.drop (0 : Nat) out) > m) then k Ex.ret [AV.int IntKind.i64 w, AV.int IntKind.i64 m, AV.bool false, AV.own (900 : Nat), AV.int IntKind.i64 (↑i : Int)] [some (Row.arr false (Sh.agg [Sh.int IntKind.i64, Sh.int IntKind.i64]) (36 : Nat) out none)] else bif decide (((↑out.length : Int) - IntKind.i64.wrap ((↑i : Int) + (1 : Int))).toNat < ((↑out.length : Int) - (↑i : Int)).toNat) then bif decide ((0 : Int) ≤ IntKind.i64.wrap ((↑i : Int) + (1 : Int)) ∧ IntKind.i64.wrap ((↑i : Int) + (1 : Int)) ≤ (↑out.length : Int) ∧ out.length ≤ (60 : Nat)) then bif (findN (overW w m out) out.length (IntKind.i64.wrap ((↑i : Int) + (1 : Int))).toNat).isSome then k Ex.ret [AV.int IntKind.i64 w, AV.int IntKind.i64 m, AV.bool false, AV.own (900 : Nat), AV.int IntKind.i64 (↑((findN (overW w m out) out.length (IntKind.i64.wrap ((↑i : Int) + (1 : Int))).toNat).getD (0 : Nat)) : Int)] [some (Row.arr false (Sh.agg [Sh.int IntKind.i64, Sh.int IntKind.i64]) (36 : Nat) out none)] else k (Ex.exit (4 : Nat)) [AV.int IntKind.i64 w, AV.int IntKind.i64 m, AV.bool false, AV.own (900 : Nat), AV.int IntKind.i64 (↑out.length : Int)] [some (Row.arr false (Sh.agg [Sh.int IntKind.i64, Sh.int IntKind.i64]) (36 : Nat) out none)] else none else none else none else k (Ex.exit (4 : Nat)) [AV.int IntKind.i64 w, AV.int IntKind.i64 m, AV.bool false, AV.own (900 : Nat), AV.int IntKind.i64 (↑i : Int)] [some (Row.arr false (Sh.agg [Sh.int IntKind.i64, Sh.int IntKind.i64]) (36 : Nat) out none)]) (by kernel_rfl) ?_
    rw [← hk]
    by_cases hlt : i < out.length
    · have e1 : IntKind.i64.wrap ((i : Int) + 1) = ((i + 1 : Nat) : Int) := by rw [wrap_mid _ (by omega) (by omega)]; omega
      have hg : decide ((0 : Int) ≤ (i : Int) ∧ (i : Int) < (out.length : Int) ∧ (0 : Int) ≤ 0 ∧ (0 : Int) ≤ (out.length : Int) ∧ out.length ≤ 60) = true := decide_eq_true ⟨by omega, by omega, by omega, by omega, by omega⟩
      have hg' : decide ((0 : Int) ≤ ((i + 1 : Nat) : Int) ∧ ((i + 1 : Nat) : Int) ≤ (out.length : Int) ∧ out.length ≤ 60) = true := decide_eq_true ⟨by omega, by omega, by omega⟩
      have hdec : decide (((out.length : Int) - ((i + 1 : Nat) : Int)).toNat < ((out.length : Int) - (i : Int)).toNat) = true := decide_eq_true (by omega)
      rw [sT_step _ _ _ _ _ hlt, e1, hg, hg', hdec, decide_eq_true (by omega : (i : Int) < (out.length : Int)), Int.toNat_natCast]
      show (bif overW w m out i then _ else _) = _
      cases overW w m out i <;> rfl
    · obtain rfl : i = out.length := by omega
      rw [decide_eq_false (by omega), sT_end]
      rfl
  · cases h
theorem law4 (w m : Int) (us : List AV) : evF Try.prog GL [(6, a4), (11, l4b), (19, l4c), (23, l4d)] Try.f4 AV [.int .i64 w, .int .i64 m, .slv sU us] some = some (.bool true) := by
  refine Eq.trans (b := bif !inR w (1 : Int) (1000000 : Int) then some (AV.bool true) else bif !inR m (0 : Int) (1000000 : Int) then some (AV.bool true) else bif decide ((↑us.length : Int) > (60 : Int)) then some (AV.bool true) else bif decide ((1 : Int) ≤ (1 : Int) ∧ us.length ≤ (60 : Nat)) then bif (findN (disU us) us.length (Int.toNat (1 : Int))).isSome then some (AV.bool true) else bif isKs (AV.slz sK) && (decide (w = w ∧ m = m) && invB w m us (0 : Int) [] []) then bif isV (runU w m us (us.length - Int.toNat (0 : Int)) (AV.slz sK) []).fst then bif decide ((0 : Int) ≤ (0 : Int) ∧ (0 : Int) ≤ (↑(runU w m us (us.length - Int.toNat (0 : Int)) (AV.slz sK) []).snd.length : Int) ∧ (runU w m us (us.length - Int.toNat (0 : Int)) (AV.slz sK) []).snd.length ≤ (60 : Nat)) then bif (findN (overW w m (runU w m us (us.length - Int.toNat (0 : Int)) (AV.slz sK) []).snd) (runU w m us (us.length - Int.toNat (0 : Int)) (AV.slz sK) []).snd.length (0 : Nat)).isSome then some (AV.bool false) else some (AV.bool true) else none else bif decide ((0 : Int) ≤ (0 : Int) ∧ (0 : Int) ≤ (↑(runU w m us (us.length - Int.toNat (0 : Int)) (AV.slz sK) []).snd.length : Int) ∧ (runU w m us (us.length - Int.toNat (0 : Int)) (AV.slz sK) []).snd.length ≤ (60 : Nat)) then bif (findN (overW w m (runU w m us (us.length - Int.toNat (0 : Int)) (AV.slz sK) []).snd) (runU w m us (us.length - Int.toNat (0 : Int)) (AV.slz sK) []).snd.length (0 : Nat)).isSome then some (AV.bool false) else some (AV.bool true) else none else none else none) (by kernel_rfl) ?_
  cases h1 : inR w 1 1000000
  · rfl
  · cases h2 : inR m 0 1000000
    · rfl
    · by_cases h3 : (us.length : Int) > 60
      · rw [decide_eq_true h3]; rfl
      · cases h4 : findN (disU us) us.length (Int.toNat 1) with
        | some q => rw [decide_eq_false h3, decide_eq_true ⟨by omega, by omega⟩]; rfl
        | none =>
          have hs : us.Pairwise fun a b => uA a ≤ uA b := srt_step fun i h0 hi => by
            have := of_decide_eq_false (findN_none h4 i h0 hi)
            omega
          have I0 := Inv.first (inR_spec h1) (inR_spec h2) (by omega : us.length ≤ 60) hs
          have I1 := Inv.run (kc := .slz sK) us.length 0 (by omega) I0
          have hI : invB w m us 0 [] [] = true := invB_of I0
          have hlen := I1.len
          have hnone : findN (overW w m (runU w m us us.length (.slz sK) []).2) (runU w m us us.length (.slz sK) []).2.length 0 = none := findN_of_none fun i _ hi => by
            have hx := getD_mem hi
            have hw := I1.win _ hx
            have hb : ∀ u ∈ (runU w m us us.length (.slz sK) []).2, 0 ≤ uN u ∧ uN u ≤ 1000000 := fun u hu => by
              obtain ⟨a, b⟩ := I1.num u hu
              have := I1.hm
              exact ⟨by omega, by omega⟩
            exact decide_eq_false (by rw [sumP_tot _ hb (by omega) (by omega)]; omega)
          rw [decide_eq_false h3, decide_eq_true (⟨by omega, by omega⟩ : (1 : Int) ≤ 1 ∧ us.length ≤ 60), hI, decide_eq_true (⟨rfl, rfl⟩ : w = w ∧ m = m), show us.length - Int.toNat 0 = us.length from rfl, hnone, decide_eq_true (⟨by omega, by omega, by omega⟩ : (0 : Int) ≤ 0 ∧ (0 : Int) ≤ ((runU w m us us.length (.slz sK) []).2.length : Int) ∧ (runU w m us us.length (.slz sK) []).2.length ≤ 60)]
          cases isV (runU w m us us.length (.slz sK) []).1 <;> rfl
theorem ok4 : SumOK Try.prog 4 (evF Try.prog GL [(6, a4), (11, l4b), (19, l4c), (23, l4d)] Try.f4) := sums (bs := [b4a, b4b, b4c, b4d]) gl Try.func4 (by kernel_rfl) (fun b hb => by
  rcases List.mem_cons.1 hb with rfl | hb
  · exact ⟨a4, by kernel_rfl, loop4a⟩
  · rcases List.mem_cons.1 hb with rfl | hb
    · exact ⟨l4b, by kernel_rfl, loop4b⟩
    · rcases List.mem_cons.1 hb with rfl | hb
      · exact ⟨l4c, by kernel_rfl, loop4c⟩
      · rcases List.mem_cons.1 hb with rfl | hb
        · exact ⟨l4d, by kernel_rfl, loop4d⟩
        · cases hb) fun _ _ _ _ h => h

theorem spec4 (H : Type) : ∀ ds : List (DataW H), ds.length = Try.f4.params.size → Rows.ratesKeepTheLimitSpec.fn H ds = { results := [.lit (.bool true)], args := ds }
  | [_, _, _], _ => rfl

set_option maxRecDepth 100000 in
theorem lifted4 (os : Os) (started : os.Started) (H : Type) (enc : TypeId × Value → H) :
    ReturnsInHanded {} Try.checked os 4 .any (Rows.ratesKeepTheLimitSpec.pre6 enc Try.prog Try.f4 Rows.ratesKeepTheLimitRow.domain false) (Rows.ratesKeepTheLimitSpec.post enc Try.prog Try.f4 false true false false) := by
  refine returnsInHanded_of_change (C := Try.checked) own started (by kernel_rfl) Try.func4
    (ChangeSpec.witness6 (enc := enc) (C := Try.checked) false ⟨#[], #[.int .i64 0, .int .i64 0, .slice none 0 0], []⟩ 8 (by kernel_rfl) (by kernel_rfl) (by kernel_rfl) (by kernel_rfl)) ?_
  intro W base args ds gs before hval hW _ _
  refine contract_of (bk H) (n := 12) (tb := 4) (F := evF Try.prog GL [(6, a4), (11, l4b), (19, l4c), (23, l4d)] Try.f4) (by kernel_rfl) (by kernel_rfl) (by kernel_rfl) rfl (by kernel_rfl) (by kernel_rfl) (spec4 H) (ok4) (fun avs hg => ?_) hval hW
  have hh : hasAll [.int .i64, .int .i64, .slice sU] avs = true := hg.has
  obtain ⟨v0, cs, rfl, h0, hh⟩ := hasAll_cons hh
  obtain ⟨v1, cs, rfl, h1, hh⟩ := hasAll_cons hh
  obtain ⟨v2, cs, rfl, h2, hh⟩ := hasAll_cons hh
  obtain rfl := hasAll_nil hh
  obtain ⟨w, rfl⟩ := has_int h0
  obtain ⟨m, rfl⟩ := has_int h1
  obtain ⟨us, rfl, _, _, _⟩ := has_slice h2 (hg.fit _ (by simp))
  exact law4 w m us

theorem rates_keep_the_limit : Rows.RatesKeepTheLimitSaid :=
  OpenClaim.holds_of_wide 4 Try.f4 rfl rfl rfl rfl rfl rfl rfl ⟨rfl, rfl, rfl, rfl, rfl⟩ rfl rfl rfl rfl rfl (by kernel_rfl) Try.func4 (by kernel_rfl)
    (of_decide_eq_true (by kernel_rfl)) (by unfold Func.isWrapper; first | (rw [if_pos (by decide +kernel)]; kernel_rfl) | (rw [if_neg (by decide +kernel)]; exact ⟨rfl, rfl⟩))
    (fun os started H enc _ => lifted4 os started H enc)

end Go.Proofs.Ythacpbjcgmbplaa
