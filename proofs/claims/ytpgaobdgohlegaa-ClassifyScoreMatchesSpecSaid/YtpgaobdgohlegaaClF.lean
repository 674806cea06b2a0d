/-
  The classifier: what has been learned, by what is found; what the laws are called with.
-/
import Derived.Test.YtpgaobdgohlegaaClE
namespace Go.Proofs.Ytpgaobdgohlegaa
open Go.Ev

noncomputable def G10 : Env := { G1 with pure := (8, ofT F8) :: (12, ofT F12) :: (13, ofT F13) :: G1.pure }
theorem g10 : GOK Try.prog G10 := GOK.also (GOK.also (GOK.also g1 ok13) ok12) ok8
def F10 : List AV → Tr AV
  | [] => .leaf (.bool true)
  | _ => .no
theorem ok10 : SumOK Try.prog 10 (ofT F10) ∧ SNat (ofT F10) := by
  refine fn0 g10 Try.func10 (by kernel_rfl) fun ρ avs k r h => ?_
  unfold F10 at h
  split at h
  · have hk := h
    refine Eq.trans (b := k (.bool true)) (by kernel_rfl) hk
  · cases h
/-! Search -/
theorem ltN_blt (s : List UInt8) (es : List AV) (i : Nat) : ltN s es i = blt (xOf (es.getD i .unk)) s := cmpS_neg _ _
theorem at_eq {es : List AV} (h : Srt xOf blt es) (s : List UInt8) : atK s es = posn xOf blt s es := by
  obtain ⟨h1, h2⟩ := posn_spec bltO h s
  unfold atK
  refine bs_eq (m := es.length) (fun a ha => ?_) (fun a ha hl => ?_) es.length 0 es.length (Nat.zero_le _) (posn_le _ _ _ _) (Nat.le_refl _) (by omega)
  · have hl : a < es.length := Nat.lt_of_lt_of_le ha (posn_le _ _ _ _)
    rw [ltN_blt, getD_eq hl]
    exact h1 a hl ha
  · rw [ltN_blt, getD_eq hl]
    exact h2 a hl ha
theorem isK_spec {es : List AV} (h : Srt xOf blt es) (s : List UInt8) : (isK s es = true ∧ atK s es < es.length ∧ lk xOf s es = some (es.getD (atK s es) .unk)) ∨ (isK s es = false ∧ lk xOf s es = none) := by
  cases hk : lk xOf s es with
  | none =>
    refine .inr ⟨?_, rfl⟩
    unfold isK
    by_cases hl : atK s es < es.length
    · have := look_none.1 hk _ (List.getElem_mem hl)
      rw [getD_eq hl, show (xOf es[atK s es] == s) = false from by simpa using this, Bool.and_false]
    · rw [decide_eq_false hl]; rfl
  | some e =>
    obtain ⟨m1, m2⟩ := look_mem hk
    obtain ⟨q, hq, rfl⟩ := List.getElem_of_mem m1
    have hat : atK s es = q := by rw [at_eq h, posn_found bltO h hq m2]
    rw [hat]
    refine .inl ⟨?_, hq, by rw [getD_eq hq]⟩
    unfold isK
    rw [hat, decide_eq_true hq, getD_eq hq, m2]
    simp
def bump (junk : Bool) (o : Option AV) (s : List UInt8) : AV := addT junk (o.getD (tk s 0 0))
theorem addT_x (junk : Bool) (e : AV) : xOf (addT junk e) = xOf e := by cases junk <;> rfl
theorem bump_x {junk : Bool} {o : Option AV} {s : List UInt8} (h : ∀ e, o = some e → xOf e = s) : xOf (bump junk o s) = s := by
  unfold bump
  rw [addT_x]
  cases o with
  | none => rfl
  | some e => exact h e rfl
theorem step_ins {es : List AV} (h : Srt xOf blt es) (junk : Bool) (t : AV) : stepL junk es t = ins xOf blt es (bump junk (lk xOf (xOf t) es) (xOf t)) := by
  unfold stepL insW
  rcases isK_spec h (xOf t) with ⟨k1, k2, k3⟩ | ⟨k1, k2⟩
  · rw [k1, k3, cond_true]
    refine ins_set bltO h k2 ?_
    have := (look_mem k3).2
    show _ = xOf (addT junk (es.getD (atK (xOf t) es) .unk))
    rw [addT_x, getD_eq k2]
  · rw [k1, k2, cond_false, at_eq h]
    have hx : ∀ y ∈ es, xOf y ≠ xOf (bump junk none (xOf t)) := by
      rw [bump_x (fun e he => by cases he)]
      exact look_none.1 k2
    have hp := posn_ins bltO h hx
    rw [bump_x (fun e he => by cases he)] at hp
    rw [← hp]
    have hl : (es.take (posn xOf blt (xOf t) es)).length = posn xOf blt (xOf t) es := by
      rw [List.length_take]
      have := posn_le xOf blt (xOf t) es
      omega
    have hg : (es.take (posn xOf blt (xOf t) es) ++ tk (xOf t) 0 0 :: es.drop (posn xOf blt (xOf t) es)).getD (posn xOf blt (xOf t) es) .unk = tk (xOf t) 0 0 := by
      simp [List.getD, List.getElem?_append, hl]
    rw [hg, List.set_append, if_neg (by omega), hl, Nat.sub_self]
    rfl
theorem learn_spec (junk : Bool) : ∀ {ts es : List AV}, Srt xOf blt es → Srt xOf blt ts → Srt xOf blt (learnF junk es ts) ∧ ∀ s, lk xOf s (learnF junk es ts) = if s ∈ ts.map xOf then some (bump junk (lk xOf s es) s) else lk xOf s es
  | [], es, h, _ => ⟨h, fun s => by rw [if_neg (by simp)]; rfl⟩
  | t :: r, es, h, ht => by
    have ht' := List.pairwise_cons.1 ht
    have hs : Srt xOf blt (stepL junk es t) := by rw [step_ins h]; exact ins_srt bltO h
    obtain ⟨i1, i2⟩ := learn_spec junk hs ht'.2
    refine ⟨i1, fun s => ?_⟩
    have hb : xOf (bump junk (lk xOf (xOf t) es) (xOf t)) = xOf t := bump_x fun e he => (look_mem he).2
    show lk xOf s (learnF junk (stepL junk es t) r) = _
    rw [i2, step_ins h, look_ins bltO h, hb]
    by_cases h1 : s = xOf t
    · have h2 : s ∉ r.map xOf := fun hm => by
        obtain ⟨y, hy, he⟩ := List.mem_map.1 hm
        have := ht'.1 y hy
        rw [he, h1, blt_irrefl] at this
        cases this
      rw [if_neg h2, if_pos h1, if_pos (by simp [h1]), h1]
    · rw [if_neg h1]
      by_cases h2 : s ∈ r.map xOf
      · rw [if_pos h2, if_pos (by simp only [List.map_cons, List.mem_cons]; exact .inr h2)]
      · rw [if_neg h2, if_neg (by simp only [List.map_cons, List.mem_cons]; exact fun h => h.elim h1 h2)]
def gN (junk : Bool) (G : Int) : Int := bif junk then G else G + 1
def jN (junk : Bool) (J : Int) : Int := bif junk then J + 1 else J
theorem addT_ok {G J : Int} {e : AV} (junk : Bool) (hn : nmB (xOf e) = true) (hg : 0 ≤ gOf e ∧ gOf e ≤ G) (hj : 0 ≤ jOf e ∧ jOf e ≤ J) : okT (gN junk G) (jN junk J) (addT junk e) := by
  obtain ⟨g0, g1⟩ := hg
  obtain ⟨j0, j1⟩ := hj
  cases junk
  · refine ⟨hn, ⟨?_, ?_⟩, ⟨j0, j1⟩, ?_⟩
    · show 0 ≤ gOf e + 1; omega
    · show gOf e + 1 ≤ G + 1; omega
    · show gOf e + 1 = 0 → jOf e ≠ 0; omega
  · refine ⟨hn, ⟨g0, g1⟩, ⟨?_, ?_⟩, ?_⟩
    · show 0 ≤ jOf e + 1; omega
    · show jOf e + 1 ≤ J + 1; omega
    · show gOf e = 0 → jOf e + 1 ≠ 0; omega
theorem okT_mono {G J : Int} {e : AV} (junk : Bool) (h : okT G J e) : okT (gN junk G) (jN junk J) e := by
  obtain ⟨h1, ⟨h2, h3⟩, ⟨h4, h5⟩, h6⟩ := h
  cases junk
  · exact ⟨h1, ⟨h2, by show gOf e ≤ G + 1; omega⟩, ⟨h4, h5⟩, h6⟩
  · exact ⟨h1, ⟨h2, h3⟩, ⟨h4, by show jOf e ≤ J + 1; omega⟩, h6⟩
theorem learn_mem {G J : Int} {es ts : List AV} (W : Wd G J es) (T : Tk ts) (hc : ∀ e ∈ es, hasSh sK e = true) (junk : Bool) : ∀ e ∈ learnF junk es ts, okT (gN junk G) (jN junk J) e ∧ hasSh sK e = true := fun e he => by
  obtain ⟨i1, i2⟩ := learn_spec junk W.srt T.srt
  have hl := look_of_mem bltO i1 he
  rw [i2] at hl
  by_cases hm : xOf e ∈ ts.map xOf
  · rw [if_pos hm] at hl
    injection hl with hl
    rw [← hl]
    obtain ⟨t, ht, hte⟩ := List.mem_map.1 hm
    have hn : nmB (xOf e) = true := by rw [← hte]; exact T.all t ht
    unfold bump
    cases hk : lk xOf (xOf e) es with
    | none => exact ⟨addT_ok junk hn ⟨Int.le_refl _, W.g0⟩ ⟨Int.le_refl _, W.j0⟩, by cases junk <;> rfl⟩
    | some y =>
      obtain ⟨m1, m2⟩ := look_mem hk
      obtain ⟨y1, y2, y3, _⟩ := W.all y m1
      exact ⟨addT_ok junk y1 y2 y3, by cases junk <;> rfl⟩
  · rw [if_neg hm] at hl
    have m1 := (look_mem hl).1
    exact ⟨okT_mono junk (W.all e m1), hc e m1⟩
/-- A message that is learned. -/
theorem lrn_ok {G J : Int} {es ts : List AV} (hc : ∀ e ∈ es, hasSh sK e = true) {junk : Bool} (h : ((lrnF G J es ts junk).1 != 0) = false) : lrnF G J es ts junk = (0, 0) ∧ Wd G J es ∧ Tk ts ∧ cntW junk G J ≠ 1000000 ∧ lrnW G J es ts junk = wd (gN junk G) (jN junk J) (learnF junk es ts) ∧ Wd (gN junk G) (jN junk J) (learnF junk es ts) ∧ ∀ e ∈ learnF junk es ts, hasSh sK e = true := by
  have hz : (lrnF G J es ts junk).1 = 0 := by simpa using h
  have hw : lrnW G J es ts junk = wd (gN junk G) (jN junk J) (learnF junk es ts) := by unfold lrnW; rw [h]; rfl
  unfold lrnF at hz
  cases hv : (commF G J es ts).1 != 0
  · rw [hv] at hz
    obtain ⟨c1, W, T⟩ := comm_ok hv
    cases h1 : cntW junk G J == 1000000
    · by_cases h2 : ((learnF junk es ts).length : Int) > 2000
      · rw [h1, decide_eq_true h2] at hz; cases hz
      · have hcn : cntW junk G J ≠ 1000000 := by simpa using h1
        have hmem := learn_mem W T hc junk
        have g0 := W.g0; have g1 := W.g1; have j0 := W.j0; have j1 := W.j1
        refine ⟨by unfold lrnF; rw [hv, h1, decide_eq_false h2]; rfl, W, T, hcn, hw, ?_, fun e he => (hmem e he).2⟩
        refine ⟨?_, ?_, ?_, ?_, by omega, fun e he => (hmem e he).1, (learn_spec junk W.srt T.srt).1⟩
        · cases junk
          · show 0 ≤ G + 1; omega
          · exact g0
        · cases junk
          · show G + 1 ≤ 1000000
            have : G ≠ 1000000 := hcn
            omega
          · exact g1
        · cases junk
          · exact j0
          · show 0 ≤ J + 1; omega
        · cases junk
          · exact j1
          · show J + 1 ≤ 1000000
            have : J ≠ 1000000 := hcn
            omega
    · rw [h1] at hz; cases hz
  · rw [hv] at hz
    simp only [cond_true] at hz
    rw [hz] at hv
    cases hv
theorem lrn_of {G J : Int} {es ts : List AV} (W : Wd G J es) (T : Tk ts) (junk : Bool) : lrnF G J es ts junk = bif cntW junk G J == 1000000 then (8, -4) else bif decide (((learnF junk es ts).length : Int) > 2000) then (2, -1) else (0, 0) := by
  unfold lrnF
  rw [comm_zero W T]
  rfl
theorem small_of {n : Nat} (h : n ≤ 10000) : small n = true := decide_eq_true (by omega)
theorem learn_len {es ts : List AV} (junk : Bool) : (learnF junk es ts).length ≤ es.length + ts.length := by
  unfold learnF
  induction ts generalizing es with
  | nil => simp
  | cons t r ih =>
    rw [List.foldl_cons]
    have h1 := ih (es := stepL junk es t)
    have h2 : (stepL junk es t).length ≤ es.length + 1 := by
      unfold stepL
      rw [List.length_set]
      exact (insW_len es (xOf t)).2
    rw [List.length_cons]
    omega
theorem open_words {v : AV} (h : hasSh (.agg [.int .i64, .int .i64, .slice sK]) v = true) (hf : Fit v) : ∃ G J es, v = .agg [.int .i64 G, .int .i64 J, .slv sK es] ∧ small es.length = true ∧ ∀ e ∈ es, hasSh sK e = true := by
  obtain ⟨cs, rfl, h1⟩ := has_agg h
  have hfi := hf.agg_inv
  obtain ⟨c1, cs, rfl, a1, h1⟩ := hass_cons h1
  obtain ⟨c2, cs, rfl, a2, h1⟩ := hass_cons h1
  obtain ⟨c3, cs, rfl, a3, h1⟩ := hass_cons h1
  obtain rfl := hass_nil h1
  obtain ⟨G, rfl⟩ := has_int a1
  obtain ⟨J, rfl⟩ := has_int a2
  obtain ⟨es, rfl, h2, h3, _⟩ := has_slice (s := sK) a3 (hfi _ (by simp))
  exact ⟨G, J, es, rfl, h2, h3⟩
theorem open_toks {v : AV} (h : hasSh (.slice .str) v = true) (hf : Fit v) : ∃ ts, v = .slv .str ts ∧ small ts.length = true := by
  obtain ⟨ts, rfl, h1, _, _⟩ := has_slice (s := .str) h hf
  exact ⟨ts, rfl, h1⟩
noncomputable def GL : Env := { G1 with pure := (10, ofT F10) :: G10.pure }
theorem gl : GOK Try.prog GL := GOK.also g10 ok10
end Go.Proofs.Ytpgaobdgohlegaa
