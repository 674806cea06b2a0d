/-
  Greylists: what an attempt leaves behind, by what is found; what the laws are called with.
-/
import Derived.Test.YtbkokbmodpkamaaGyF
namespace Go.Proofs.Ytbkokbmodpkamaa
open Go.Ev

noncomputable def G12 : Env := { G1 with pure := (7, ofT F7) :: (11, ofT F11) :: G1.pure }
theorem g12 : GOK Try.prog G12 := GOK.also (GOK.also g1 ok11) ok7
def F12 : List AV → Tr AV
  | [] => .leaf (.bool true)
  | _ => .no
theorem ok12 : SumOK Try.prog 12 (ofT F12) ∧ SNat (ofT F12) := by
  refine fn0 g12 Try.func12 (by kernel_rfl) fun ρ avs k r h => ?_
  unfold F12 at h
  split at h
  · have hk := h
    refine Eq.trans (b := k (.bool true)) (by kernel_rfl) hk
  · cases h
noncomputable def GL : Env := { G1 with pure := (12, ofT F12) :: (14, ofT F14) :: (10, ofT F9) :: (9, ofT F9) :: (8, ofT F8) :: G12.pure }
theorem gl : GOK Try.prog GL := GOK.also (GOK.also (GOK.also (GOK.also (GOK.also g12 ok8) ok9) ok10) ok14) ok12
theorem open_grey {v : AV} (h : hasSh (.slice sE) v = true) (hf : Fit v) : ∃ es, v = .slv sE es ∧ small es.length = true ∧ ∀ e ∈ es, hasSh sE e = true := by
  obtain ⟨es, rfl, h1, h2, _⟩ := has_slice (s := sE) h hf
  exact ⟨es, rfl, h1, h2⟩
theorem all_can {es : List AV} (h : ∀ e ∈ es, hasSh sE e = true) : es.all (hasSh sE) = true := List.all_eq_true.2 h
theorem Gd.small {es : List AV} (h : Gd es) : small es.length = true := decide_eq_true (by have := h.len; omega)
/-- An attempt without a fault. -/
theorem try_ok {es : List AV} (hc : ∀ e ∈ es, hasSh sE e = true) {x : K3} {now : Int} (h : ((tryR es x now).2.2.1 != 0) = false) : Gd es ∧ nm3 x.1 x.2.1 x.2.2 = true ∧ tmB now = true ∧ (∀ e, lk kOf x es = some e → lOf e ≤ now) := by
  have hz : (tryR es x now).2.2.1 = 0 := by simpa using h
  unfold tryR at hz
  cases hv : (listF es).1 != 0
  · rw [hv] at hz
    cases h1 : nm3 x.1 x.2.1 x.2.2
    · rw [h1] at hz; cases hz
    · cases h2 : tmB now
      · rw [h1, h2] at hz; cases hz
      · refine ⟨Gd.of (by simpa using hv) hc, rfl, rfl, fun e he => ?_⟩
        rw [find_look] at he
        rw [h1, h2] at hz
        simp only [Bool.not_true, cond_false] at hz
        cases hq : findK x es with
        | none => rw [hq] at he; cases he
        | some q =>
          rw [hq] at he hz
          injection he with he
          dsimp only at hz
          rw [← he]
          show lOf (es.getD q .unk) ≤ now
          by_cases hd : lOf (es.getD q .unk) > now
          · rw [decide_eq_true hd] at hz; cases hz
          · omega
  · rw [hv] at hz
    simp only [cond_true] at hz
    rw [hz] at hv
    cases hv
theorem newR_ok {es : List AV} {x : K3} {now : Int} (hc : (newR es x now).2.2.1 = 0) : (fresh now es).length < 300 ∧ newR es x now = (ins kOf k3lt (fresh now es) (newE x now), false, (0, 0)) := by
  rw [newR_z] at hc ⊢
  by_cases h : (fresh now es).length ≥ 300
  · rw [decide_eq_true h] at hc; cases hc
  · rw [decide_eq_false h]; exact ⟨by omega, rfl⟩
theorem newR_code {es : List AV} {x : K3} {now : Int} : (newR es x now).2.1 = false ∧ ((newR es x now).2.2.1 = 0 ∨ (newR es x now).2.2.1 = 2) := by
  rw [newR_z]
  cases decide ((fresh now es).length ≥ 300)
  · exact ⟨rfl, .inl rfl⟩
  · exact ⟨rfl, .inr rfl⟩
/-- What an attempt answers, by what is found. -/
theorem try_some {es : List AV} (G : Gd es) {x : K3} {now : Int} (h1 : nm3 x.1 x.2.1 x.2.2 = true) (h2 : tmB now = true) {e : AV} (he : lk kOf x es = some e) (hl : lOf e ≤ now) :
    (oldE now e = false → tryR es x now = (ins kOf k3lt es (upE e now), knOf (upE e now), (0, 0))) ∧ (oldE now e = true → tryR es x now = newR es x now) := by
  rw [try_gd G h1 h2]
  rw [find_look] at he
  cases hq : findK x es with
  | none => rw [hq] at he; cases he
  | some q =>
    rw [hq] at he
    injection he with he
    dsimp only at he ⊢
    obtain ⟨q1, q2⟩ := find_at hq
    rw [he, decide_eq_false (by omega), cond_false]
    refine ⟨fun ho => ?_, fun ho => ?_⟩
    · rw [ho]
      have hk : kOf es[q] = kOf (upE e now) := by
        rw [getD_eq q1] at he
        rw [he]; rfl
      rw [ins_set k3O G.srt q1 hk]
      rfl
    · rw [ho]; rfl
theorem try_none {es : List AV} (G : Gd es) {x : K3} {now : Int} (h1 : nm3 x.1 x.2.1 x.2.2 = true) (h2 : tmB now = true) (he : lk kOf x es = none) : tryR es x now = newR es x now := by
  rw [try_gd G h1 h2]
  rw [find_look] at he
  cases hq : findK x es with
  | none => rfl
  | some q => rw [hq] at he; cases he
theorem Gd.fresh {es : List AV} (G : Gd es) (now : Int) : Gd (fresh now es) :=
  ⟨Nat.le_trans (List.length_filter_le _ _) G.len, fun e he => G.all e (List.mem_filter.1 he).1, List.Pairwise.sublist List.filter_sublist G.srt, fun e he => G.can e (List.mem_filter.1 he).1⟩
theorem Gd.ins {es : List AV} (G : Gd es) {x : AV} (hx : okE x) (hc : hasSh sE x = true) (hl : (ins kOf k3lt es x).length ≤ 300) : Gd (ins kOf k3lt es x) := by
  refine ⟨hl, fun e he => ?_, ins_srt k3O G.srt, fun e he => ?_⟩
  · rcases (ins_mem k3O).1 he with rfl | ⟨m, _⟩
    · exact hx
    · exact G.all e m
  · rcases (ins_mem k3O).1 he with rfl | ⟨m, _⟩
    · exact hc
    · exact G.can e m
theorem lk_fresh {es : List AV} (G : Gd es) (now : Int) (y : K3) : lk kOf y (fresh now es) = match lk kOf y es with
    | some e => bif oldE now e then none else some e
    | none => none := by
  cases hk : lk kOf y es with
  | none =>
    rw [look_none] at hk ⊢
    exact fun e he => hk e (List.mem_filter.1 he).1
  | some e =>
    obtain ⟨m1, m2⟩ := look_mem hk
    dsimp only
    cases ho : oldE now e
    · rw [cond_false, look_iff k3O (G.fresh now).srt]
      exact ⟨List.mem_filter.2 ⟨m1, by rw [ho]; rfl⟩, m2⟩
    · rw [cond_true, look_none]
      intro e' he' h
      have := srt_inj k3O G.srt (List.mem_filter.1 he').1 m1 (h.trans m2.symm)
      have h3 := (List.mem_filter.1 he').2
      rw [this, ho] at h3
      cases h3
theorem okE_up {e : AV} (h : okE e) {now : Int} (hn : tmB now = true) (hl : lOf e ≤ now) : okE (upE e now) := ⟨h.1, h.2.1, hn, by have := h.2.2.2; exact Int.le_trans this hl⟩
theorem okE_new {x : K3} {now : Int} (h1 : nm3 x.1 x.2.1 x.2.2 = true) (h2 : tmB now = true) : okE (newE x now) := ⟨h1, h2, h2, Int.le_refl _⟩
/-- The list after an attempt that was noted. -/
theorem after_keep {es : List AV} (G : Gd es) {x : K3} {now : Int} (h2 : tmB now = true) {e : AV} (he : lk kOf x es = some e) (hl : lOf e ≤ now) : Gd (ins kOf k3lt es (upE e now)) ∧ ∀ y, lk kOf y (ins kOf k3lt es (upE e now)) = if y = x then some (upE e now) else lk kOf y es := by
  obtain ⟨m1, m2⟩ := look_mem he
  have hk : kOf (upE e now) = x := m2
  refine ⟨G.ins (okE_up (G.all e m1) h2 hl) rfl ?_, fun y => ?_⟩
  · rw [ins_len_old k3O G.srt m1 (m2.trans hk.symm)]; exact G.len
  · rw [look_ins k3O G.srt, hk]
theorem after_new {es : List AV} (G : Gd es) {x : K3} {now : Int} (h1 : nm3 x.1 x.2.1 x.2.2 = true) (h2 : tmB now = true) (hl : (fresh now es).length < 300) (ho : ∀ e, lk kOf x es = some e → oldE now e = true) : Gd (ins kOf k3lt (fresh now es) (newE x now)) ∧ ∀ y, lk kOf y (ins kOf k3lt (fresh now es) (newE x now)) = if y = x then some (newE x now) else match lk kOf y es with
    | some e => bif oldE now e then none else some e
    | none => none := by
  have hk : kOf (newE x now) = x := rfl
  refine ⟨(G.fresh now).ins (okE_new h1 h2) rfl ?_, fun y => ?_⟩
  · rw [ins_len_new k3O]
    · omega
    · rw [hk]
      refine look_none.1 ?_
      rw [lk_fresh G]
      cases hx : lk kOf x es with
      | none => rfl
      | some e => dsimp only; rw [ho e hx]; rfl
  · rw [look_ins k3O (G.fresh now).srt, hk, lk_fresh G]
theorem try_fault {es : List AV} {x : K3} {now : Int} (h : ((tryR es x now).2.2.1 != 0) = true) : (tryR es x now).1 = [] ∧ (tryR es x now).2.1 = false := by
  have hn : ((newR es x now).2.2.1 != 0) = true → (newR es x now).1 = [] ∧ (newR es x now).2.1 = false := fun h => by
    rw [newR_z] at h ⊢
    cases hd : decide ((fresh now es).length ≥ 300)
    · rw [hd] at h; cases h
    · exact ⟨rfl, rfl⟩
  unfold tryR at h ⊢
  cases hv : (listF es).1 != 0
  · rw [hv] at h
    cases h1 : nm3 x.1 x.2.1 x.2.2
    · exact ⟨rfl, rfl⟩
    · cases h2 : tmB now
      · exact ⟨rfl, rfl⟩
      · rw [h1, h2] at h
        simp only [Bool.not_true, cond_false] at h ⊢
        cases hq : findK x es with
        | none => rw [hq] at h; exact hn h
        | some q =>
          rw [hq] at h
          dsimp only at h ⊢
          cases hd : decide (lOf (es.getD q .unk) > now)
          · rw [hd] at h
            cases ho : oldE now (es.getD q .unk)
            · rw [ho] at h; cases h
            · rw [ho] at h; exact hn h
          · exact ⟨rfl, rfl⟩
  · exact ⟨rfl, rfl⟩
/-- An attempt: a fault, an entry that is kept, or a new one. -/
theorem try_cases {es : List AV} (hc : ∀ e ∈ es, hasSh sE e = true) (x : K3) (now : Int) :
    (((tryR es x now).2.2.1 != 0) = true ∧ (tryR es x now).1 = [] ∧ (tryR es x now).2.1 = false) ∨ (Gd es ∧ nm3 x.1 x.2.1 x.2.2 = true ∧ tmB now = true ∧
      ((∃ e, lk kOf x es = some e ∧ lOf e ≤ now ∧ oldE now e = false ∧ tryR es x now = (ins kOf k3lt es (upE e now), knOf (upE e now), (0, 0))) ∨
       ((∀ e, lk kOf x es = some e → oldE now e = true) ∧ (fresh now es).length < 300 ∧ tryR es x now = (ins kOf k3lt (fresh now es) (newE x now), false, (0, 0))))) := by
  cases h : (tryR es x now).2.2.1 != 0
  · obtain ⟨G, h1, h2, h3⟩ := try_ok hc h
    have hz : (tryR es x now).2.2.1 = 0 := by simpa using h
    refine .inr ⟨G, h1, h2, ?_⟩
    cases hk : lk kOf x es with
    | none =>
      have e := try_none G h1 h2 hk
      rw [e] at hz
      obtain ⟨n1, n2⟩ := newR_ok hz
      exact .inr ⟨fun e he => (by cases he), n1, e.trans n2⟩
    | some e =>
      obtain ⟨s1, s2⟩ := try_some G h1 h2 hk (h3 e hk)
      cases ho : oldE now e
      · exact .inl ⟨e, rfl, h3 e hk, ho, s1 ho⟩
      · rw [s2 ho] at hz
        obtain ⟨n1, n2⟩ := newR_ok hz
        exact .inr ⟨fun e' he => by injection he with he; rw [← he]; exact ho, n1, (s2 ho).trans n2⟩
  · obtain ⟨f1, f2⟩ := try_fault h
    exact .inl ⟨rfl, f1, f2⟩
theorem Gd.nil : Gd [] := ⟨by simp, fun e he => (by cases he), List.Pairwise.nil, fun e he => (by cases he)⟩
theorem try_list {es : List AV} (hc : ∀ e ∈ es, hasSh sE e = true) (x : K3) (now : Int) : Gd (tryR es x now).1 := by
  rcases try_cases hc x now with ⟨_, h, _⟩ | ⟨G, h1, h2, ⟨e, k1, k2, k3, k4⟩ | ⟨k1, k2, k3⟩⟩
  · rw [h]; exact Gd.nil
  · rw [k4]; exact (after_keep G h2 k1 k2).1
  · rw [k3]; exact (after_new G h1 h2 k2 k1).1
theorem tm_next {now : Int} (h : tmB now = true) {w : Int} (h0 : 0 ≤ w) (h1 : w ≤ 4000000) : IntKind.i64.wrap (now + w) = now + w := by
  obtain ⟨a, b⟩ := inR_spec h
  exact wrap_mid _ (by omega) (by omega)
theorem try_late {es : List AV} (G : Gd es) {x : K3} {now : Int} (h1 : nm3 x.1 x.2.1 x.2.2 = true) (h2 : tmB now = false) : tryR es x now = ([], false, (3, -2)) := by
  unfold tryR
  rw [G.listF, h1, h2]
  rfl
end Go.Proofs.Ytbkokbmodpkamaa
