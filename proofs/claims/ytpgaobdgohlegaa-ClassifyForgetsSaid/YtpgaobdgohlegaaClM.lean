/-
  The classifier: Forget's loop by what is found; Forgotten is Forget; Forget undoes Learn.
-/
import Derived.Test.YtpgaobdgohlegaaClL
namespace Go.Proofs.Ytpgaobdgohlegaa
open Go.Ev

def hitO (junk : Bool) (es : List AV) (s : List UInt8) : Bool := match lk xOf s es with
  | some e => !(cntT junk e == 0)
  | none => false
def missI (p : List UInt8 → Bool) : List AV → Nat → Option Nat
  | [], _ => none
  | t :: r, k => bif p (xOf t) then missI p r (k + 1) else some k
theorem missI_cons (p : List UInt8 → Bool) (t : AV) (r : List AV) (k : Nat) : missI p (t :: r) k = bif p (xOf t) then missI p r (k + 1) else some k := rfl
theorem missI_congr {p q : List UInt8 → Bool} : ∀ {ts : List AV} {k : Nat}, (∀ t ∈ ts, p (xOf t) = q (xOf t)) → missI p ts k = missI q ts k
  | [], _, _ => rfl
  | t :: r, k, h => by
    rw [missI_cons, missI_cons, h t (by simp), missI_congr (ts := r) (k := k + 1) fun x hx => h x (by simp [hx])]
theorem missI_none {p : List UInt8 → Bool} : ∀ {ts : List AV} {k : Nat}, missI p ts k = none → ∀ t ∈ ts, p (xOf t) = true
  | [], _, _, t, ht => by simp at ht
  | t :: r, k, h, x, hx => by
    rw [missI_cons] at h
    cases hp : p (xOf t)
    · rw [hp] at h; cases h
    · rw [hp] at h
      rcases List.mem_cons.1 hx with hx | hx
      · rw [hx]; exact hp
      · exact missI_none (ts := r) (k := k + 1) h x hx
theorem missI_of {p : List UInt8 → Bool} : ∀ {ts : List AV} {k : Nat}, (∀ t ∈ ts, p (xOf t) = true) → missI p ts k = none
  | [], _, _ => rfl
  | t :: r, k, h => by rw [missI_cons, h t (by simp)]; exact missI_of (ts := r) (k := k + 1) fun x hx => h x (by simp [hx])
theorem decT_x (junk : Bool) (e : AV) : xOf (decT junk e) = xOf e := by cases junk <;> rfl
theorem hit_eq {es : List AV} (h : Srt xOf blt es) (junk : Bool) (s : List UInt8) : hitF junk es s = hitO junk es s := by
  unfold hitF hitO
  rcases isK_spec h s with ⟨k1, k2, k3⟩ | ⟨k1, k2⟩
  · rw [k1, k3]; rfl
  · rw [k1, k2]; rfl
theorem step_dec {es : List AV} (h : Srt xOf blt es) {junk : Bool} {s : List UInt8} (hh : hitO junk es s = true) : ∃ e, lk xOf s es = some e ∧ cntT junk e ≠ 0 ∧ stepD junk es s = ins xOf blt es (decT junk e) := by
  rcases isK_spec h s with ⟨k1, k2, k3⟩ | ⟨k1, k2⟩
  · unfold hitO at hh
    rw [k3] at hh
    refine ⟨_, k3, by simpa using hh, ?_⟩
    unfold stepD
    refine ins_set bltO h k2 ?_
    rw [decT_x, getD_eq k2]
  · unfold hitO at hh
    rw [k2] at hh; cases hh
theorem forg_spec (junk : Bool) : ∀ {ts es : List AV} {k : Nat}, Srt xOf blt es → Srt xOf blt ts → (forgF junk es ts k).1 = missI (hitO junk es) ts k ∧ ((forgF junk es ts k).1 = none → Srt xOf blt (forgF junk es ts k).2 ∧ ∀ s, lk xOf s (forgF junk es ts k).2 = if s ∈ ts.map xOf then (lk xOf s es).map (decT junk) else lk xOf s es)
  | [], es, k, h, _ => ⟨rfl, fun _ => ⟨h, fun s => by rw [if_neg (by simp)]; rfl⟩⟩
  | t :: r, es, k, h, ht => by
    obtain ⟨t1, t2⟩ := List.pairwise_cons.1 ht
    rw [forgF_cons, missI_cons, hit_eq h]
    cases hh : hitO junk es (xOf t)
    · exact ⟨rfl, fun h => by cases h⟩
    · obtain ⟨e, e1, e2, e3⟩ := step_dec h hh
      have hx : xOf (decT junk e) = xOf t := by rw [decT_x, (look_mem e1).2]
      have hs : Srt xOf blt (stepD junk es (xOf t)) := by rw [e3]; exact ins_srt bltO h
      obtain ⟨i1, i2⟩ := forg_spec junk (k := k + 1) hs t2
      have hlk : ∀ s, s ≠ xOf t → lk xOf s (stepD junk es (xOf t)) = lk xOf s es := fun s hne => by
        rw [e3, look_ins bltO h, hx, if_neg hne]
      rw [cond_true, cond_true]
      refine ⟨i1.trans (missI_congr fun x hx => ?_), fun hn => ?_⟩
      · unfold hitO
        rw [hlk (xOf x) (blt_ne' (t1 x hx)).symm]
      · obtain ⟨j1, j2⟩ := i2 hn
        refine ⟨j1, fun s => ?_⟩
        rw [j2]
        by_cases h1 : s = xOf t
        · have hnm : s ∉ r.map xOf := fun hm => by
            obtain ⟨y, hy, hy2⟩ := List.mem_map.1 hm
            exact blt_ne' (t1 y hy) (by rw [hy2, h1])
          rw [if_neg hnm, if_pos (by simp [h1]), e3, look_ins bltO h, hx, if_pos h1, h1, e1]
          rfl
        · rw [hlk s h1]
          by_cases hm : s ∈ r.map xOf
          · rw [if_pos hm, if_pos (by simp only [List.map_cons, List.mem_cons]; exact .inr hm)]
          · rw [if_neg hm, if_neg (by simp only [List.map_cons, List.mem_cons]; exact fun h' => h'.elim h1 hm)]
theorem srt_filter {p : AV → Bool} {es : List AV} (h : Srt xOf blt es) : Srt xOf blt (es.filter p) := List.Pairwise.filter _ h
theorem lk_filter {p : AV → Bool} {es : List AV} (h : Srt xOf blt es) (s : List UInt8) : lk xOf s (es.filter p) = (lk xOf s es).filter p := by
  cases hk : lk xOf s es with
  | none =>
    refine look_none.2 fun x hx => look_none.1 hk x (List.mem_filter.1 hx).1
  | some e =>
    obtain ⟨m1, m2⟩ := look_mem hk
    show _ = if p e then some e else none
    cases hp : p e
    · refine look_none.2 fun x hx hxs => ?_
      obtain ⟨x1, x2⟩ := List.mem_filter.1 hx
      have := srt_inj bltO h x1 m1 (hxs.trans m2.symm)
      rw [this, hp] at x2; cases x2
    · exact (look_iff bltO (srt_filter h)).2 ⟨List.mem_filter.2 ⟨m1, hp⟩, m2⟩
theorem isZ_nz {G J : Int} {e : AV} (hg : 0 ≤ gOf e ∧ gOf e ≤ G) (hj : 0 ≤ jOf e ∧ jOf e ≤ J) (g1 : G ≤ 1000000) (j1 : J ≤ 1000000) : (!isZ e) = nzE e := by
  unfold isZ nzE
  rw [gj_zero (inR_of hg.1 hg.2) (inR_of hj.1 hj.2) g1 j1]
  cases h1 : gOf e == 0 <;> cases h2 : jOf e == 0 <;> simp [bne, h1, h2]
theorem there_eq {G J : Int} {es : List AV} (W : Wd G J es) (junk : Bool) (s : List UInt8) (p : AV → Bool) (hp : ∀ e, p e = (xOf e == s && decide (cntT junk e > 0))) : es.any p = hitO junk es s := by
  unfold hitO
  cases hk : lk xOf s es with
  | none =>
    refine List.any_eq_false.2 fun e he => ?_
    have := look_none.1 hk e he
    rw [hp, show (xOf e == s) = false from by simpa using this]
    simp
  | some e =>
    obtain ⟨m1, m2⟩ := look_mem hk
    have hpos : decide (cntT junk e > 0) = !(cntT junk e == 0) := by
      obtain ⟨_, a, b, _⟩ := W.all e m1
      cases junk
      · show decide (gOf e > 0) = !(gOf e == 0)
        by_cases h : gOf e = 0
        · rw [h]; rfl
        · rw [decide_eq_true (by omega), show (gOf e == 0) = false from by simpa using h]; rfl
      · show decide (jOf e > 0) = !(jOf e == 0)
        by_cases h : jOf e = 0
        · rw [h]; rfl
        · rw [decide_eq_true (by omega), show (jOf e == 0) = false from by simpa using h]; rfl
    show es.any p = !(cntT junk e == 0)
    rw [← hpos]
    cases hd : decide (cntT junk e > 0)
    · refine List.any_eq_false.2 fun x hx => ?_
      rw [hp]
      intro hc
      simp only [Bool.and_eq_true] at hc
      have := srt_inj bltO W.srt hx m1 ((by simpa using hc.1 : xOf x = s).trans m2.symm)
      rw [this, hd] at hc
      exact absurd hc.2 (by simp)
    · refine List.any_eq_true.2 ⟨e, m1, ?_⟩
      rw [hp, hd, m2]
      simp
theorem hit_dec (junk : Bool) (e : AV) : hitT junk (-1) e = decT junk e := by cases junk <;> rfl
/-- Forgotten is Forget. -/
theorem chg_forg {G J : Int} {es ts : List AV} {junk : Bool} (W : Wd G J es) (T : Tk ts) (hc : ∀ e ∈ es, hasSh sK e = true) (hn : (forgF junk es ts 0).1 = none) : chg junk (-1) es ts = forgE junk es ts := by
  obtain ⟨i1, i2⟩ := forg_spec junk (k := 0) W.srt T.srt
  obtain ⟨j1, j2⟩ := i2 hn
  have hm := missI_none (i1 ▸ hn)
  unfold forgE
  refine srt_look_ext bltO (chg_srt junk (-1) es ts W.srt T.srt) (srt_filter j1) fun s => ?_
  rw [chg_lk junk (-1) es ts W.srt T.srt, lk_filter j1, j2]
  unfold chgO
  have hG := W.g1; have hJ := W.j1
  by_cases h : s ∈ ts.map xOf
  · rw [if_pos h, if_pos h]
    obtain ⟨t, ht, rfl⟩ := List.mem_map.1 h
    have hh := hm t ht
    unfold hitO at hh
    cases hk : lk xOf (xOf t) es with
    | none => rw [hk] at hh; cases hh
    | some e =>
      rw [hk] at hh
      have hz : cntT junk e ≠ 0 := by simpa using hh
      obtain ⟨_, a, b, _⟩ := W.all e (look_mem hk).1
      show nzO (hitT junk (-1) e) = (some (decT junk e)).filter fun x => !isZ x
      rw [hit_dec]
      have hd : (0 ≤ gOf (decT junk e) ∧ gOf (decT junk e) ≤ G) ∧ 0 ≤ jOf (decT junk e) ∧ jOf (decT junk e) ≤ J := by
        cases junk
        · have hz : gOf e ≠ 0 := hz
          exact ⟨⟨by show 0 ≤ gOf e - 1; omega, by show gOf e - 1 ≤ G; omega⟩, b⟩
        · have hz : jOf e ≠ 0 := hz
          exact ⟨a, by show 0 ≤ jOf e - 1; omega, by show jOf e - 1 ≤ J; omega⟩
      have := isZ_nz hd.1 hd.2 hG hJ
      simp only [Option.filter, this]
      unfold nzO
      have he : eT (decT junk e) = decT junk e := by cases junk <;> rfl
      rw [he]
      cases nzE (decT junk e) <;> rfl
  · rw [if_neg h, if_neg h]
    cases hk : lk xOf s es with
    | none => rfl
    | some e =>
      have hm := (look_mem hk).1
      obtain ⟨_, a, b, _⟩ := W.all e hm
      have := isZ_nz a b hG hJ
      show nzO e = (some e).filter fun x => !isZ x
      simp only [Option.filter, this]
      unfold nzO
      rw [nzE_of (W.all e hm), can_of (hc e hm)]
      rfl
/-- Forget undoes Learn. -/
theorem forg_learn {G J : Int} {es ts : List AV} {junk : Bool} (W : Wd G J es) (T : Tk ts) (hc : ∀ e ∈ es, hasSh sK e = true) : (forgF junk (learnF junk es ts) ts 0).1 = none ∧ forgE junk (learnF junk es ts) ts = es := by
  obtain ⟨l1, l2⟩ := learn_spec junk W.srt T.srt
  obtain ⟨i1, i2⟩ := forg_spec junk (k := 0) l1 T.srt
  have hp : ∀ s, 0 ≤ gOf ((lk xOf s es).getD (tk s 0 0)) ∧ 0 ≤ jOf ((lk xOf s es).getD (tk s 0 0)) := fun s => by
    cases hk : lk xOf s es with
    | none => exact ⟨Int.le_refl _, Int.le_refl _⟩
    | some e => obtain ⟨_, a, b, _⟩ := W.all e (look_mem hk).1; exact ⟨a.1, b.1⟩
  have hn : (forgF junk (learnF junk es ts) ts 0).1 = none := by
    rw [i1]
    refine missI_of fun t ht => ?_
    unfold hitO
    rw [l2, if_pos (List.mem_map_of_mem ht)]
    obtain ⟨p1, p2⟩ := hp (xOf t)
    unfold bump
    generalize (lk xOf (xOf t) es).getD (tk (xOf t) 0 0) = e at p1 p2
    cases junk
    · show (!(gOf e + 1 == 0)) = true
      have : gOf e + 1 ≠ 0 := by omega
      simp [this]
    · show (!(jOf e + 1 == 0)) = true
      have : jOf e + 1 ≠ 0 := by omega
      simp [this]
  refine ⟨hn, ?_⟩
  obtain ⟨j1, j2⟩ := i2 hn
  unfold forgE
  have hG := W.g1; have hJ := W.j1
  refine srt_look_ext bltO (srt_filter j1) W.srt fun s => ?_
  rw [lk_filter j1, j2, l2]
  have keep : ∀ e, lk xOf s es = some e → (some e).filter (fun x => !isZ x) = some e := fun e hk => by
    have hm := (look_mem hk).1
    obtain ⟨_, a, b, _⟩ := W.all e hm
    have := isZ_nz a b hG hJ
    simp only [Option.filter, this, nzE_of (W.all e hm)]
    rfl
  by_cases h : s ∈ ts.map xOf
  · rw [if_pos h, if_pos h]
    unfold bump
    cases hk : lk xOf s es with
    | none => cases junk <;> rfl
    | some e =>
      have hca := can_of (hc e (look_mem hk).1)
      have : decT junk (addT junk e) = e := by
        rw [← hca]
        cases junk
        · show tk (xOf e) (gOf e + 1 - 1) (jOf e) = tk (xOf e) (gOf e) (jOf e)
          rw [Int.add_sub_cancel]
        · show tk (xOf e) (gOf e) (jOf e + 1 - 1) = tk (xOf e) (gOf e) (jOf e)
          rw [Int.add_sub_cancel]
      show (some (decT junk (addT junk e))).filter (fun x => !isZ x) = some e
      rw [this]
      exact keep e hk
  · rw [if_neg h, if_neg h]
    cases hk : lk xOf s es with
    | none => rfl
    | some e => exact keep e hk
/-- Learn undoes Forget. -/
theorem learn_forg {G J : Int} {es ts : List AV} {junk : Bool} (W : Wd G J es) (T : Tk ts) (hc : ∀ e ∈ es, hasSh sK e = true) (hn : (forgF junk es ts 0).1 = none) : learnF junk (forgE junk es ts) ts = es := by
  obtain ⟨i1, i2⟩ := forg_spec junk (k := 0) W.srt T.srt
  obtain ⟨j1, j2⟩ := i2 hn
  have hm := missI_none (i1 ▸ hn)
  have hs : Srt xOf blt (forgE junk es ts) := srt_filter j1
  obtain ⟨l1, l2⟩ := learn_spec junk hs T.srt
  have hG := W.g1; have hJ := W.j1
  refine srt_look_ext bltO l1 W.srt fun s => ?_
  rw [l2]
  have hf : lk xOf s (forgE junk es ts) = (if s ∈ ts.map xOf then (lk xOf s es).map (decT junk) else lk xOf s es).filter fun x => !isZ x := by
    unfold forgE; rw [lk_filter j1, j2]
  rw [hf]
  by_cases h : s ∈ ts.map xOf
  · rw [if_pos h, if_pos h]
    obtain ⟨t, ht, rfl⟩ := List.mem_map.1 h
    have hh := hm t ht
    unfold hitO at hh
    cases hk : lk xOf (xOf t) es with
    | none => rw [hk] at hh; cases hh
    | some e =>
      rw [hk] at hh
      have hz : cntT junk e ≠ 0 := by simpa using hh
      obtain ⟨m1, m2⟩ := look_mem hk
      obtain ⟨_, a, b, _⟩ := W.all e m1
      have hca := can_of (hc e m1)
      have hd : (0 ≤ gOf (decT junk e) ∧ gOf (decT junk e) ≤ G) ∧ 0 ≤ jOf (decT junk e) ∧ jOf (decT junk e) ≤ J := by
        cases junk
        · have hz : gOf e ≠ 0 := hz
          exact ⟨⟨by show 0 ≤ gOf e - 1; omega, by show gOf e - 1 ≤ G; omega⟩, b⟩
        · have hz : jOf e ≠ 0 := hz
          exact ⟨a, by show 0 ≤ jOf e - 1; omega, by show jOf e - 1 ≤ J; omega⟩
      have hZ := isZ_nz hd.1 hd.2 hG hJ
      have hback : addT junk (decT junk e) = e := by
        rw [← hca]
        cases junk
        · show tk (xOf e) (gOf e - 1 + 1) (jOf e) = tk (xOf e) (gOf e) (jOf e)
          rw [Int.sub_add_cancel]
        · show tk (xOf e) (gOf e) (jOf e - 1 + 1) = tk (xOf e) (gOf e) (jOf e)
          rw [Int.sub_add_cancel]
      show some (bump junk ((some (decT junk e)).filter fun x => !isZ x) (xOf t)) = some e
      simp only [Option.filter, hZ]
      cases hnz : nzE (decT junk e)
      · simp only [Bool.false_eq_true, if_false]
        have h0 : gOf (decT junk e) = 0 ∧ jOf (decT junk e) = 0 := by
          unfold nzE at hnz
          rw [Bool.or_eq_false_iff] at hnz
          exact ⟨by simpa using hnz.1, by simpa using hnz.2⟩
        have hdd : decT junk e = tk (xOf t) 0 0 := by
          have : decT junk e = tk (xOf (decT junk e)) (gOf (decT junk e)) (jOf (decT junk e)) := by cases junk <;> rfl
          rw [this, h0.1, h0.2, decT_x, m2]
        show some (addT junk (tk (xOf t) 0 0)) = some e
        rw [← hdd, hback]
      · simp only [if_true]
        show some (addT junk (decT junk e)) = some e
        rw [hback]
  · rw [if_neg h, if_neg h]
    cases hk : lk xOf s es with
    | none => rfl
    | some e =>
      have hm := (look_mem hk).1
      obtain ⟨_, a, b, _⟩ := W.all e hm
      have := isZ_nz a b hG hJ
      simp only [Option.filter, this, nzE_of (W.all e hm)]
      rfl
end Go.Proofs.Ytpgaobdgohlegaa
