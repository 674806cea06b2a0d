/-
  Lists of senders in order, by what is found in them; what the laws are called with.
-/
import Derived.Test.YtbbmjifioimlmaaRpD
import Derived.Test.YtbbmjifioimlmaaSrt
import Derived.Test.YtbbmjifioimlmaaGiven
namespace Go.Proofs.Ytbbmjifioimlmaa
open Go.Ev

theorem bltO : SO blt := ⟨blt_irrefl, blt_trans, blt_total⟩
def okE (x : AV) : Prop := nmB (nmOf x) = true ∧ (0 ≤ gOf x ∧ gOf x ≤ 1000000) ∧ (0 ≤ bOf x ∧ bOf x ≤ 1000000) ∧ -795365 ≤ dOf x ∧ dOf x ≤ 795365
structure Gd (es : List AV) : Prop where
  len : es.length ≤ 300
  all : ∀ e ∈ es, okE e
  srt : Srt nmOf blt es
  can : ∀ e ∈ es, eS e = e
theorem Ok.gd {es : List AV} (h : Ok es) (hc : ∀ e ∈ es, eS e = e) : Gd es := by
  refine ⟨h.len, fun e he => ?_, srt_of_get fun i j hi hj hij => ?_, hc⟩
  · obtain ⟨i, hi, rfl⟩ := List.getElem_of_mem he
    rw [← getD_eq hi]
    exact ⟨h.nm i hi, h.g i hi, h.b i hi, h.d i hi⟩
  · rw [← getD_eq hi, ← getD_eq hj]
    exact h.srt i j hij hj
theorem Gd.ok {es : List AV} (h : Gd es) : Ok es := by
  have m : ∀ i (hi : i < es.length), es.getD i .unk ∈ es := fun i hi => by rw [getD_eq hi]; exact List.getElem_mem hi
  refine ⟨h.len, fun i hi => (h.all _ (m i hi)).1, fun i hi => (h.all _ (m i hi)).2.1, fun i hi => (h.all _ (m i hi)).2.2.1, fun i hi => (h.all _ (m i hi)).2.2.2, fun i j hij hj => ?_⟩
  rw [getD_eq hj, getD_eq (Nat.lt_trans hij hj)]
  exact srt_get h.srt (Nat.lt_trans hij hj) hj hij
theorem Gd.send {es : List AV} (h : Gd es) : sendF es = (0, 0) := by
  have O := h.ok
  have hb : badS es = none := findN_of_none fun i _ hi => by
    obtain ⟨g0, g1⟩ := O.g i hi
    obtain ⟨b0, b1⟩ := O.b i hi
    obtain ⟨d0, d1⟩ := O.d i hi
    have ho : ordN es (es.getD i .unk) i = false := by
      unfold ordN
      by_cases h0 : i = 0
      · subst h0; rfl
      · have := O.srt (i - 1) i (by omega) hi
        have h1 := blt_asymm this
        have h2 := blt_ne this
        unfold blt at h1
        rw [h1, Bool.false_or, show (nmOf (es.getD i .unk) == nmOf (es.getD (i - 1) .unk)) = (nmOf (es.getD (i - 1) .unk) == nmOf (es.getD i .unk)) from Bool.beq_comm, h2, Bool.and_false]
    have : codeN es es i = 0 := by
      unfold codeN codeX
      rw [O.nm i hi, inR_of g0 g1, inR_of b0 b1, inR_of d0 d1, ho]
      rfl
    rw [this]
    rfl
  unfold sendF
  rw [hb, decide_eq_false (by have := h.len; omega)]
  rfl
theorem find_look (s : List UInt8) (es : List AV) : lk nmOf s es = (findS s es).map fun q => es.getD q .unk := by
  cases hf : findS s es with
  | none =>
    rw [Option.map_none, look_none]
    intro x hx
    obtain ⟨i, hi, rfl⟩ := List.getElem_of_mem hx
    have := findN_none hf i (Nat.zero_le _) hi
    unfold isN at this
    rw [getD_eq hi] at this
    simpa using this
  | some q =>
    obtain ⟨_, h2, h3, h4⟩ := findN_some hf
    unfold isN at h3 h4
    rw [Option.map_some, getD_eq h2]
    rw [getD_eq h2] at h3
    unfold lk
    rw [List.find?_eq_some_iff_getElem]
    refine ⟨by simpa using h3, q, h2, rfl, fun j hj => ?_⟩
    have := h4 j (Nat.zero_le _) hj
    rw [getD_eq (Nat.lt_trans hj h2)] at this
    simpa using this
def newV (o : Option AV) (s : List UInt8) (junk : Bool) (day : Int) : AV := match o with
  | some e => sx s (addW junk (halve (gOf e) (day - dOf e)) (halve (bOf e) (day - dOf e))).1 (addW junk (halve (gOf e) (day - dOf e)) (halve (bOf e) (day - dOf e))).2 day
  | none => sx s (addW junk 0 0).1 (addW junk 0 0).2 day
theorem new_look (es : List AV) (s : List UInt8) (junk : Bool) (day : Int) : newS es s junk day = newV (lk nmOf s es) s junk day := by
  rw [find_look]
  unfold newS newV
  cases findS s es <;> rfl
def scV (o : Option AV) (day : Int) : Int := match o with
  | some e => sc (halve (gOf e) (day - dOf e)) (halve (bOf e) (day - dOf e))
  | none => 0
theorem sc_look (es : List AV) (s : List UInt8) (day : Int) : scoreV es s day = scV (lk nmOf s es) day := by
  rw [find_look]
  unfold scoreV scV
  cases findS s es <;> rfl
theorem Gd.note {es : List AV} (h : Gd es) (x : AV) : noteL es (nmOf x) x = ins nmOf blt es x := by
  have O := h.ok
  unfold noteL
  cases hf : findS (nmOf x) es with
  | none =>
    obtain ⟨p1, p2, p3⟩ := pos_spec O (nmOf x)
    refine ins_put bltO p1 (fun i hi h1 => ?_) (fun i hi h1 => ?_) (look_none.1 (by rw [find_look, hf]; rfl))
    · have := p2 i h1; rw [ltN_blt, getD_eq hi] at this; exact this
    · have := p3 i h1 hi; rw [ltN_blt, getD_eq hi] at this; exact this
  | some q =>
    obtain ⟨_, h2, h3⟩ := find_pos O hf
    rw [getD_eq h2] at h3
    exact ins_set bltO h.srt h2 h3
theorem insL_true (s : List UInt8) (x : AV) : ∀ {es : List AV}, (∀ e ∈ es, eS e = e) → insL s x true es = (true, es.filter fun e => !(nmOf e == s))
  | [], _ => rfl
  | e :: r, h => by
    rw [insL_cons, insL_true s x (es := r) fun y hy => h y (by simp [hy]), h e (by simp)]
    cases h1 : nmOf e == s <;> simp [List.filter_cons, h1]
theorem Gd.insA {es : List AV} (h : Srt nmOf blt es) (hc : ∀ e ∈ es, eS e = e) (x : AV) : insA es (nmOf x) x = ins nmOf blt es x := by
  induction es with
  | nil => rfl
  | cons e r ih =>
    have h' := List.pairwise_cons.1 h
    have ih := ih h'.2 fun y hy => hc y (by simp [hy])
    rw [ins_cons bltO h, ← ih]
    have ht := insL_true (nmOf x) x (es := r) fun y hy => hc y (by simp [hy])
    unfold Go.Proofs.Ytbbmjifioimlmaa.insA
    rw [insL_cons, ht, hc e (by simp)]
    cases h1 : blt (nmOf e) (nmOf x)
    · have h1' : Op.bytesLess (nmOf e) (nmOf x) = false := h1
      have hr : ∀ y ∈ r, blt (nmOf x) (nmOf y) = true := fun y hy => by
        by_cases h6 : nmOf e = nmOf x
        · rw [← h6]; exact h'.1 y hy
        · exact blt_trans (bltO.ge h1 h6) (h'.1 y hy)
      have hf : r.filter (fun e => !(nmOf e == nmOf x)) = r := List.filter_eq_self.2 fun y hy => by
        have := blt_ne (hr y hy)
        rw [show (nmOf y == nmOf x) = (nmOf x == nmOf y) from Bool.beq_comm, this]; rfl
      rw [h1', hf]
      cases h2 : blt (nmOf x) (nmOf e)
      · have := blt_total h1 h2
        rw [show (nmOf e == nmOf x) = true from by simp [this]]
        rfl
      · have := blt_ne h2
        rw [show (nmOf e == nmOf x) = (nmOf x == nmOf e) from Bool.beq_comm, this]
        rfl
    · have h1' : Op.bytesLess (nmOf e) (nmOf x) = true := h1
      rw [h1', blt_ne h1]
      simp only [Bool.not_true, Bool.not_false, cond_true, cond_false]
      cases (insL (nmOf x) x false r).1 <;> rfl
theorem Gd.findF {es : List AV} (h : Gd es) (s : List UInt8) (now : Int) : findF es s now = bif !nmB s then (10, -3) else bif !tmB now then (3, -2) else dayF es s (now / 86400) := by
  unfold Go.Proofs.Ytbbmjifioimlmaa.findF
  rw [h.send]
  rfl
theorem can_of {es : List AV} (h : ∀ e ∈ es, hasSh sS e = true) : ∀ e ∈ es, eS e = e := fun e he => by
  obtain ⟨cs, rfl, h1⟩ := has_agg (h e he)
  obtain ⟨c1, cs, rfl, a1, h1⟩ := hass_cons h1
  obtain ⟨c2, cs, rfl, a2, h1⟩ := hass_cons h1
  obtain ⟨c3, cs, rfl, a3, h1⟩ := hass_cons h1
  obtain ⟨c4, cs, rfl, a4, h1⟩ := hass_cons h1
  obtain rfl := hass_nil h1
  obtain ⟨x1, rfl⟩ := has_str a1
  obtain ⟨x2, rfl⟩ := has_int a2
  obtain ⟨x3, rfl⟩ := has_int a3
  obtain ⟨x4, rfl⟩ := has_int a4
  rfl
theorem same_self (es : List AV) : same es es = true := by
  unfold same
  rw [Nat.beq_refl, findN_of_none fun i _ _ => by simp [difS]]
  rfl

/-! What every law ends with -/
def F14 : List AV → Tr AV
  | [] => .leaf (.bool true)
  | _ => .no
noncomputable def G14 : Env := { G1 with pure := (8, ofT F8) :: (17, ofT F17) :: (15, ofT F15) :: G1.pure }
theorem g14 : GOK Try.prog G14 := GOK.also (GOK.also (GOK.also g1 ok15) ok17) ok8
theorem ok14 : SumOK Try.prog 14 (ofT F14) ∧ SNat (ofT F14) := by
  refine fn0 g14 Try.func14 (by kernel_rfl) fun ρ avs k r h => ?_
  unfold F14 at h
  split at h
  · refine Eq.trans (b := k (.bool true)) (by kernel_rfl) h
  · cases h
/-! Note and Score without branches -/
def noteO (es : List AV) (s : List UInt8) (junk : Bool) (now : Int) : List AV := bif (noteF es s now).1 != 0 then [] else noteL es s (newS es s junk (now / 86400))
def scoreO (es : List AV) (s : List UInt8) (now : Int) : Int := bif (findF es s now).1 != 0 then 0 else scoreV es s (now / 86400)
theorem findF_z {es : List AV} {s : List UInt8} {now : Int} (h : ((findF es s now).1 != 0) = false) : findF es s now = (0, 0) := by
  have hz : (findF es s now).1 = 0 := by simpa using h
  unfold findF at hz ⊢
  cases hv : (sendF es).1 != 0
  · rw [hv] at hz
    simp only [cond_false] at hz ⊢
    cases h1 : nmB s
    · rw [h1] at hz; cases hz
    · cases h2 : tmB now
      · rw [h1, h2] at hz; cases hz
      · rw [h1, h2] at hz
        simp only [Bool.not_true, cond_false] at hz ⊢
        unfold dayF at hz ⊢
        cases hq : findS s es with
        | none => rfl
        | some q =>
          rw [hq] at hz
          dsimp only at hz ⊢
          cases hd : decide (dOf (es.getD q .unk) > now / 86400)
          · rfl
          · rw [hd] at hz; cases hz
  · rw [hv] at hz
    simp only [cond_true] at hz
    rw [hz] at hv
    cases hv
theorem noteF_z {es : List AV} {s : List UInt8} {now : Int} (h : ((noteF es s now).1 != 0) = false) : noteF es s now = (0, 0) := by
  unfold noteF at h ⊢
  cases hv : (findF es s now).1 != 0
  · rw [hv] at h
    simp only [cond_false] at h ⊢
    cases h2 : (!(findS s es).isSome && ((es.length : Int) == 300))
    · rfl
    · rw [h2] at h; cases h
  · rw [hv] at h
    simp only [cond_true] at h
    rw [hv] at h
    cases h
def F8' : List AV → Tr AV
  | [.slv (.agg [.str, .int .i64, .int .i64, .int .i64]) es, .str s, .bool junk, .int .i64 now] => .gd (small es.length) (.leaf (.tup [.slv sS (noteO es s junk now), fault (noteF es s now)]))
  | _ => .no
def F17' : List AV → Tr AV
  | [.slv (.agg [.str, .int .i64, .int .i64, .int .i64]) es, .str s, .int .i64 now] => .gd (small es.length) (.leaf (.tup [.int .i64 (scoreO es s now), fault (findF es s now)]))
  | _ => .no
theorem e8 : ofT F8' = ofT F8 := by
  funext ρ avs k
  show (F8' avs).run k = (F8 avs).run k
  unfold F8' F8
  split
  · rename_i es s junk now
    unfold noteO
    show _ = (Tr.gd (small es.length) (Tr.br ((noteF es s now).1 != 0) (Tr.leaf (.tup [.slv sS [], fault (noteF es s now)])) (Tr.leaf (.tup [.slv sS (noteL es s (newS es s junk (now / 86400))), fault (0, 0)])))).run k
    cases hv : (noteF es s now).1 != 0
    · rw [noteF_z hv]; rfl
    · rfl
  · rename_i x1
    split
    · rename_i es s junk now; exact absurd rfl (x1 es s junk now)
    · rfl
theorem e17 : ofT F17' = ofT F17 := by
  funext ρ avs k
  show (F17' avs).run k = (F17 avs).run k
  unfold F17' F17
  split
  · rename_i es s now
    unfold scoreO
    show _ = (Tr.gd (small es.length) (Tr.br ((findF es s now).1 != 0) (Tr.leaf (.tup [.int .i64 0, fault (findF es s now)])) (Tr.leaf (.tup [.int .i64 (scoreV es s (now / 86400)), fault (0, 0)])))).run k
    cases hv : (findF es s now).1 != 0
    · rw [findF_z hv]; rfl
    · rfl
  · rename_i x1
    split
    · rename_i es s now; exact absurd rfl (x1 es s now)
    · rfl
noncomputable def GL : Env := { G1 with pure := (14, ofT F14) :: (18, ofT F18) :: (17, ofT F17') :: (16, ofT F16) :: (15, ofT F15) :: (12, ofT F12) :: (11, ofT F11) :: (10, ofT F9) :: (9, ofT F9) :: (8, ofT F8') :: G1.pure }
theorem gl : GOK Try.prog GL := GOK.also (GOK.also (GOK.also (GOK.also (GOK.also (GOK.also (GOK.also (GOK.also (GOK.also (GOK.also g1 (e8 ▸ ok8)) ok9) ok10) ok11) ok12) ok15) ok16) (e17 ▸ ok17)) ok18) ok14
/-! What is found after a message -/
theorem newV_nm (o : Option AV) (s : List UInt8) (junk : Bool) (day : Int) : nmOf (newV o s junk day) = s := by cases o <;> rfl
theorem newV_d (o : Option AV) (s : List UInt8) (junk : Bool) (day : Int) : dOf (newV o s junk day) = day := by cases o <;> rfl
def gV (o : Option AV) (day : Int) : Int := match o with
  | some e => halve (gOf e) (day - dOf e)
  | none => 0
def bV (o : Option AV) (day : Int) : Int := match o with
  | some e => halve (bOf e) (day - dOf e)
  | none => 0
theorem newV_eq (o : Option AV) (s : List UInt8) (junk : Bool) (day : Int) : newV o s junk day = sx s (addW junk (gV o day) (bV o day)).1 (addW junk (gV o day) (bV o day)).2 day := by cases o <;> rfl
theorem scV_eq (o : Option AV) (day : Int) : scV o day = sc (gV o day) (bV o day) := by cases o <;> rfl
theorem halve_0 (n : Int) : halve n 0 = n := by simp [halve]
theorem gV_some (s : List UInt8) (g b day : Int) : gV (some (sx s g b day)) day = g := by
  show halve g (day - day) = g
  rw [Int.sub_self, halve_0]
theorem bV_some (s : List UInt8) (g b day : Int) : bV (some (sx s g b day)) day = b := by
  show halve b (day - day) = b
  rw [Int.sub_self, halve_0]
theorem gV_bd {o : Option AV} (h : ∀ e, o = some e → okE e) (day : Int) : 0 ≤ gV o day ∧ gV o day ≤ 1000000 ∧ 0 ≤ bV o day ∧ bV o day ≤ 1000000 := by
  cases o with
  | none => exact ⟨Int.le_refl 0, (by decide : (0 : Int) ≤ 1000000), Int.le_refl 0, (by decide : (0 : Int) ≤ 1000000)⟩
  | some e =>
    obtain ⟨_, ⟨g0, g1⟩, ⟨b0, b1⟩, _⟩ := h e rfl
    obtain ⟨a1, a2⟩ := halve_bd (d := day - dOf e) g0 g1
    obtain ⟨a3, a4⟩ := halve_bd (d := day - dOf e) b0 b1
    exact ⟨a1, a2, a3, a4⟩
theorem addW_bd {g b : Int} (junk : Bool) (h : 0 ≤ g ∧ g ≤ 1000000 ∧ 0 ≤ b ∧ b ≤ 1000000) : 0 ≤ (addW junk g b).1 ∧ (addW junk g b).1 ≤ 1000000 ∧ 0 ≤ (addW junk g b).2 ∧ (addW junk g b).2 ≤ 1000000 := by
  cases junk
  · show 0 ≤ min (g + 1000) 1000000 ∧ min (g + 1000) 1000000 ≤ 1000000 ∧ 0 ≤ b ∧ b ≤ 1000000
    omega
  · show 0 ≤ g ∧ g ≤ 1000000 ∧ 0 ≤ min (b + 1000) 1000000 ∧ min (b + 1000) 1000000 ≤ 1000000
    omega
theorem find0 {es : List AV} (h : Gd es) {s : List UInt8} {now : Int} (hn : nmB s = true) (ht : tmB now = true) (hd : ∀ e, lk nmOf s es = some e → dOf e ≤ now / 86400) : findF es s now = (0, 0) := by
  rw [h.findF, hn, ht]
  simp only [Bool.not_true, cond_false]
  unfold dayF
  rw [find_look] at hd
  cases hq : findS s es with
  | none => rfl
  | some q =>
    have : dOf (es.getD q .unk) ≤ now / 86400 := hd _ (by rw [hq]; rfl)
    dsimp only
    rw [decide_eq_false (by omega)]
    rfl
theorem noteF0 {es : List AV} {s : List UInt8} {now : Int} (hf : findF es s now = (0, 0)) : noteF es s now = bif (lk nmOf s es).isNone && ((es.length : Int) == 300) then (2, -1) else (0, 0) := by
  unfold noteF
  rw [hf, find_look]
  cases findS s es <;> rfl
theorem findF_gd {es : List AV} (hcan : ∀ e ∈ es, eS e = e) {s : List UInt8} {now : Int} (h : ((findF es s now).1 != 0) = false) : Gd es ∧ nmB s = true ∧ tmB now = true ∧ ∀ e, lk nmOf s es = some e → dOf e ≤ now / 86400 := by
  obtain ⟨O, h1, h2, h3⟩ := findF_ok (by simpa using h : (findF es s now).1 = 0)
  refine ⟨O.gd hcan, h1, h2, fun e he => ?_⟩
  rw [find_look] at he
  cases hq : findS s es with
  | none => rw [hq] at he; cases he
  | some q => rw [hq] at he; injection he with he; rw [← he]; exact h3 q hq
theorem noteF_find {es : List AV} {s : List UInt8} {now : Int} (h : ((noteF es s now).1 != 0) = false) : ((findF es s now).1 != 0) = false := by
  unfold noteF at h
  cases hv : (findF es s now).1 != 0
  · rfl
  · rw [hv] at h; simp only [cond_true] at h; rw [hv] at h; cases h
/-- A list after a message that was noted. -/
theorem note_gd {es : List AV} (hcan : ∀ e ∈ es, eS e = e) {s : List UInt8} {now : Int} (junk : Bool) (h : ((noteF es s now).1 != 0) = false) :
    noteO es s junk now = ins nmOf blt es (newV (lk nmOf s es) s junk (now / 86400)) ∧ Gd (noteO es s junk now) ∧ (noteO es s junk now).length = es.length + (bif (lk nmOf s es).isNone then 1 else 0) ∧ ((lk nmOf s es).isNone = true → es.length < 300) := by
  have hf := noteF_find h
  obtain ⟨G, h1, h2, h3⟩ := findF_gd hcan hf
  have hx := newV_nm (lk nmOf s es) s junk (now / 86400)
  have hd := newV_d (lk nmOf s es) s junk (now / 86400)
  have e1 : noteO es s junk now = ins nmOf blt es (newV (lk nmOf s es) s junk (now / 86400)) := by
    unfold noteO
    rw [h, cond_false, new_look]
    have := G.note (newV (lk nmOf s es) s junk (now / 86400))
    rw [hx] at this
    exact this
  have hlt : (lk nmOf s es).isNone = true → es.length < 300 := fun hno => by
    have := noteF_z h
    rw [noteF0 (findF_z hf), hno] at this
    have hl := G.len
    by_cases h300 : es.length = 300
    · rw [h300] at this; cases this
    · omega
  have hlen : (ins nmOf blt es (newV (lk nmOf s es) s junk (now / 86400))).length = es.length + (bif (lk nmOf s es).isNone then 1 else 0) := by
    cases hk : lk nmOf s es with
    | none => exact ins_len_new bltO (by rw [newV_nm]; exact look_none.1 hk)
    | some e =>
      obtain ⟨m1, m2⟩ := look_mem hk
      exact ins_len_old bltO G.srt m1 (by rw [newV_nm]; exact m2)
  refine ⟨e1, ?_, by rw [e1, hlen], hlt⟩
  rw [e1]
  refine ⟨?_, fun e he => ?_, ins_srt bltO G.srt, fun e he => ?_⟩
  · rw [hlen]
    have := G.len
    cases hk : (lk nmOf s es).isNone
    · simpa using this
    · have := hlt hk; simp; omega
  · rcases (ins_mem bltO).1 he with rfl | ⟨m1, _⟩
    · have hb := addW_bd junk (gV_bd (o := lk nmOf s es) (fun e he => G.all e (look_mem he).1) (now / 86400))
      obtain ⟨n0, n1⟩ := day_bd h2
      rw [newV_eq]
      exact ⟨h1, ⟨hb.1, hb.2.1⟩, ⟨hb.2.2.1, hb.2.2.2⟩, n0, n1⟩
    · exact G.all e m1
  · rcases (ins_mem bltO).1 he with rfl | ⟨m1, _⟩
    · rw [newV_eq]; rfl
    · exact hcan e m1
theorem lk_note {es : List AV} (hcan : ∀ e ∈ es, eS e = e) {s : List UInt8} {now : Int} {junk : Bool} (h : ((noteF es s now).1 != 0) = false) (o : List UInt8) : lk nmOf o (noteO es s junk now) = if o = s then some (newV (lk nmOf s es) s junk (now / 86400)) else lk nmOf o es := by
  obtain ⟨e1, _⟩ := note_gd hcan junk h
  obtain ⟨G, _⟩ := findF_gd hcan (noteF_find h)
  rw [e1, look_ins bltO G.srt, newV_nm]
theorem Gd.small {es : List AV} (h : Gd es) : small es.length = true := decide_eq_true (by have := h.len; omega)
theorem tm_next {now : Int} (h : tmB now = true) {days : Int} (h0 : 0 ≤ days) (h1 : days ≤ 100) : IntKind.i64.wrap (now + IntKind.i64.wrap (86400 * days)) = now + 86400 * days := by
  obtain ⟨a, b⟩ := inR_spec h
  rw [wrap_mid (86400 * days) (by omega) (by omega), wrap_mid _ (by omega) (by omega)]
theorem sc_neg (g b : Int) : sc g b = - sc b g := by
  unfold sc
  rw [show 1000 * (g - b) = -(1000 * (b - g)) from by omega, Int.neg_tdiv, show g + b + 1000 = b + g + 1000 from by omega]
theorem sc_nonneg {g b : Int} (h0 : 0 ≤ b) (h : b ≤ g) : 0 ≤ sc g b := by
  unfold sc
  rw [Int.tdiv_eq_ediv_of_nonneg (by omega)]
  exact Int.ediv_nonneg (by omega) (by omega)
theorem sc_nonpos {g b : Int} (h0 : 0 ≤ g) (h : g ≤ b) : sc g b ≤ 0 := by
  rw [sc_neg]
  have := sc_nonneg h0 h
  omega
theorem sc_mono {g g' b : Int} (h0 : 0 ≤ g) (hb : 0 ≤ b) (h : g ≤ g') : sc g b ≤ sc g' b := by
  by_cases h1 : b ≤ g
  · unfold sc
    rw [Int.tdiv_eq_ediv_of_nonneg (by omega), Int.tdiv_eq_ediv_of_nonneg (by omega)]
    have e1 : 1000 * (g - b) / (g + b + 1000) * (g + b + 1000) ≤ 1000 * (g - b) := Int.ediv_mul_le _ (by omega)
    have e2 : 1000 * (g - b) / (g + b + 1000) ≤ 1000 := Int.ediv_le_of_le_mul (by omega) (by omega)
    have e3 : 0 ≤ 1000 * (g - b) / (g + b + 1000) := Int.ediv_nonneg (by omega) (by omega)
    rw [Int.le_ediv_iff_mul_le (by omega)]
    generalize 1000 * (g - b) / (g + b + 1000) = m at e1 e2 e3
    have e4 : m * (g' + b + 1000) = m * (g + b + 1000) + m * (g' - g) := by rw [← Int.mul_add]; congr 1; omega
    have e5 : m * (g' - g) ≤ 1000 * (g' - g) := Int.mul_le_mul_of_nonneg_right e2 (by omega)
    omega
  · by_cases h2 : b ≤ g'
    · have a1 := sc_nonpos h0 (by omega : g ≤ b)
      have a2 := sc_nonneg hb h2
      omega
    · rw [sc_neg g b, sc_neg g' b]
      suffices sc b g' ≤ sc b g by omega
      unfold sc
      rw [Int.tdiv_eq_ediv_of_nonneg (by omega), Int.tdiv_eq_ediv_of_nonneg (by omega)]
      refine Int.le_trans (Int.ediv_le_ediv (by omega) (by omega : 1000 * (b - g') ≤ 1000 * (b - g))) ?_
      rw [Int.le_ediv_iff_mul_le (by omega)]
      have e1 : 1000 * (b - g) / (b + g' + 1000) * (b + g' + 1000) ≤ 1000 * (b - g) := Int.ediv_mul_le _ (by omega)
      have e3 : 0 ≤ 1000 * (b - g) / (b + g' + 1000) := Int.ediv_nonneg (by omega) (by omega)
      generalize 1000 * (b - g) / (b + g' + 1000) = m at e1 e3
      have : m * (b + g + 1000) ≤ m * (b + g' + 1000) := Int.mul_le_mul_of_nonneg_left (by omega) e3
      omega
theorem sc_anti {g b b' : Int} (hg : 0 ≤ g) (h0 : 0 ≤ b) (h : b ≤ b') : sc g b' ≤ sc g b := by
  rw [sc_neg g b', sc_neg g b]
  have := sc_mono h0 hg h
  omega
theorem halve_add (n a b : Int) (ha : 0 ≤ a) (hb : 0 ≤ b) : halve n (a + b) = halve (halve n a) b := by
  unfold halve
  rw [Int.ediv_ediv_of_nonneg (Int.le_of_lt (Int.pow_pos (by decide))), ← Int.pow_add]
  congr 2
  omega
theorem halve_mono {m n : Int} (h : m ≤ n) (d : Int) : halve m d ≤ halve n d := Int.ediv_le_ediv (Int.pow_pos (by decide)) h
theorem halve_30 {n d : Int} (h0 : 0 ≤ n) (h1 : n ≤ 1000000) (hd : 30 ≤ d) : halve n d = 0 := by
  refine Int.ediv_eq_zero_of_lt h0 (Int.lt_of_le_of_lt h1 (Int.lt_of_lt_of_le (by decide : (1000000 : Int) < 2 ^ 30) ?_))
  exact_mod_cast Nat.pow_le_pow_right (by decide) (by omega : 30 ≤ d.toNat)
theorem open_senders {v : AV} (h : hasSh (.slice sS) v = true) (hf : Fit v) : ∃ es, v = .slv sS es ∧ small es.length = true ∧ ∀ e ∈ es, eS e = e := by
  obtain ⟨es, rfl, h1, h2, _⟩ := has_slice (s := sS) h hf
  exact ⟨es, rfl, h1, can_of h2⟩
end Go.Proofs.Ytbbmjifioimlmaa
