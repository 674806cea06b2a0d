/-
  Calls whose arguments' rows are handed over.
-/
import Derived.Test.YtpgaobdgohlegaaEvMB
namespace Go.Ev
open Go.RowKit

/-! ### Other numbers for rows -/
theorem rens_at (m : Nat → Option Nat) : ∀ (cs : List AV) (j : Nat) (c : AV), (AV.rens m cs)[j]? = some c → ∃ c', cs[j]? = some c' ∧ c = c'.ren m := by
  intro cs
  induction cs with
  | nil => intro j c hc; simp [AV.rens] at hc
  | cons x cs ih =>
    intro j c hc
    cases j with
    | zero => simp [AV.rens] at hc; exact ⟨x, rfl, hc.symm⟩
    | succ j => simp only [AV.rens, List.getElem?_cons_succ] at hc; obtain ⟨c', h1, h2⟩ := ih j c hc; exact ⟨c', by simpa using h1, h2⟩
theorem rens_length (m : Nat → Option Nat) : ∀ cs : List AV, (AV.rens m cs).length = cs.length := by
  intro cs
  induction cs with
  | nil => rfl
  | cons x cs ih => simp [AV.rens, ih]

theorem ren_rel {w : World} {S : Nat → Prop} {m : Nat → Option Nat} {β : Bet} {v : AV} {u : Value} (h : VRel w S β v u) : ∀ {β' : Bet}, (∀ id x j, β id = some x → m id = some j → β' j = some x) → VRel w S β' (v.ren m) u := by
  induction h with
  | unk β v => intro β' _; exact .unk _ v
  | undef => intro β' _; exact .undef _
  | int β k n => intro β' _; exact .int _ k n
  | bool β b => intro β' _; exact .bool _ b
  | ubool β b => intro β' _; exact .ubool _ b
  | str β s => intro β' _; exact .str _ s
  | agg β cs vs hl h1 _ ih =>
    intro β' hm
    refine .agg _ _ vs (by rw [rens_length]; exact hl) h1 fun j c u hc hu => ?_
    obtain ⟨c', hc', rfl⟩ := rens_at m cs j c hc
    exact ih j c' u hc' hu hm
  | tup β cs vs hl _ ih =>
    intro β' hm
    refine .tup _ _ vs (by rw [rens_length]; exact hl) fun j c u hc hu => ?_
    obtain ⟨c', hc', rfl⟩ := rens_at m cs j c hc
    exact ih j c' u hc' hu hm
  | slv β s es A c a xs hs hc hm hA hl h1 hx hh _ => intro β' _; exact .slv _ s es A c a xs hs hc hm hA hl h1 hx hh
  | slz β s A => intro β' _; exact .slz _ s A
  | eref β s es i off a xs hi hs hSa hl h1 hx hh _ => intro β' _; exact .eref _ s es i off a xs hi hs hSa hl h1 hx hh
  | ref β cs a xs hSa hl h1 hx hh _ => intro β' _; exact .ref _ cs a xs hSa hl h1 hx hh
  | ptr β id off g wd hbt =>
    intro β' hm
    simp only [AV.ren]
    split
    · rename_i j hj; exact .ptr _ j off g wd (hm _ _ _ hbt hj)
    · exact .unk _ _
  | eptr β id i off g n c wd hbt =>
    intro β' hm
    simp only [AV.ren]
    split
    · rename_i j hj; exact .eptr _ j i off g n c wd (hm _ _ _ hbt hj)
    · exact .unk _ _
  | own β id v wd hbt =>
    intro β' hm
    simp only [AV.ren]
    split
    · rename_i j hj; exact .own _ j v wd (hm _ _ _ hbt hj)
    · exact .unk _ _
  | sub β id lo len A n c wd hbt =>
    intro β' hm
    simp only [AV.ren]
    split
    · rename_i j hj; exact .sub _ j lo len A n c wd (hm _ _ _ hbt hj)
    · exact .unk _ _
  | fn β f cs vs hl _ ih =>
    intro β' hm
    refine .fn _ f _ vs (by rw [rens_length]; exact hl) fun j c u hc hu => ?_
    obtain ⟨c', hc', rfl⟩ := rens_at m cs j c hc
    exact ih j c' u hc' hu hm

theorem rens_rel {w : World} {S : Nat → Prop} {m : Nat → Option Nat} {β β' : Bet} (hm : ∀ id x j, β id = some x → m id = some j → β' j = some x) {cs : List AV} {vs : List Value} (h : VRels w S β cs vs) : VRels w S β' (AV.rens m cs) vs := by
  refine ⟨by rw [rens_length]; exact h.1, fun j c u hc hu => ?_⟩
  obtain ⟨c', hc', rfl⟩ := rens_at m cs j c hc
  exact ren_rel (h.2 j c' u hc' hu) hm

theorem RowRel.ren {w : World} {S B B' : Nat → Prop} {β β' : Bet} {m : Nat → Option Nat} {id id' : Nat} {o : Option Nat} {r : Row} (h : RowRel w S B β id o r) (hm : ∀ id x j, β id = some x → m id = some j → β' j = some x) (hid : ∀ x, β id = some x → β' id' = some x) (hB : ∀ g, o = some g → ¬ B g → ¬ B' g) :
    RowRel w S B' β' id' o (r.ren m) := by
  cases r with
  | box imm cs =>
    obtain ⟨g, vs, t, ho, hb, hh, h1, hv, hi, hj, hBg⟩ := h
    exact ⟨g, vs, t, ho, hid _ hb, hh, h1, rens_rel hm hv, hi, hj, hB g ho hBg⟩
  | arr imm s e es csp =>
    obtain ⟨hp, v, sp, xs, hsh, hcs, hb, h1, hv, hor⟩ := h
    refine ⟨hp, v, sp, xs, hsh, hcs, hid _ hb, h1, hv, ?_⟩
    rcases hor with h | ⟨g, ho, hvv, hBg, rest⟩
    · exact .inl h
    · exact .inr ⟨g, ho, hvv, hB g ho hBg, rest⟩
theorem RowRel.forget {w : World} {S B : Nat → Prop} {β : Bet} {id : Nat} {o : Option Nat} {r : Row} (h : RowRel w S B β id o r) : RowRel w S B β id o r.forget := by
  cases r with
  | box imm cs => exact h
  | arr imm s e es csp =>
    obtain ⟨hp, v, sp, xs, hsh, hcs, rest⟩ := h
    exact ⟨hp, v, sp, xs, hsh, (fun c h => by cases h), rest⟩
theorem RowRel.place {w : World} {S B : Nat → Prop} {β : Bet} {id : Nat} {o : Option Nat} {r : Row} (h : RowRel w S B β id o r) : (∃ x, β id = some x) ∧ ∀ g, o = some g → ¬ B g := by
  cases r with
  | box imm cs =>
    obtain ⟨g, vs, t, ho, hb, hh, h1, hv, hi, hj, hBg⟩ := h
    exact ⟨⟨_, hb⟩, fun g' hg' => by rw [ho] at hg'; cases hg'; exact hBg⟩
  | arr imm s e es csp =>
    obtain ⟨hp, v, sp, xs, hsh, hcs, hb, h1, hv, hor⟩ := h
    refine ⟨⟨_, hb⟩, fun g' hg' => ?_⟩
    rcases hor with ⟨_, _, ho, _⟩ | ⟨g, ho, hvv, hBg, rest⟩
    · rw [ho] at hg'; cases hg'
    · rw [ho] at hg'; cases hg'; exact hBg
def Row.imm : Row → Bool
  | .box i _ => i
  | .arr i _ _ _ _ => i
theorem RowRel.free {w : World} {S B : Nat → Prop} {β : Bet} {id : Nat} {o : Option Nat} {r : Row} (h : RowRel w S B β id o r) (hi : r.imm = false) : ∀ g, o = some g → ¬ S g := by
  cases r with
  | box imm cs =>
    obtain ⟨g, vs, t, ho, hb, hh, h1, hv, hi', hj, hBg⟩ := h
    intro g' hg'; rw [ho] at hg'; cases hg'; exact hi' hi
  | arr imm s e es csp =>
    obtain ⟨hp, v, sp, xs, hsh, hcs, hb, h1, hv, hor⟩ := h
    intro g' hg'
    rcases hor with ⟨_, _, ho, _⟩ | ⟨g, ho, hvv, hBg, _, _, hi', _⟩
    · rw [ho] at hg'; cases hg'
    · rw [ho] at hg'; cases hg'; exact hi' hi

/-! ### Opening -/
section opn
variable {w : World} {S B : Nat → Prop} {β : Bet} {og : Nat → Option Nat} {rows : List (Nat × Row)}

theorem VRels.tail_with {ids ids' : List Nat} (hs : ∀ i ∈ ids, i ∈ ids') {cs : List AV} {vs : List Value} (h : VRels w (With S og ids) β cs vs) : VRels w (With S og ids') β cs vs := h.keepS fun _ hb => With.sub hs hb

theorem purL_soundX {f : AV → Option (AV × List Nat)} (hf : ∀ v v' ids u, f v = some (v', ids) → VRel w S β v u → VRel w (With S og ids) β v' u) :
    ∀ (cs : List AV) (cs' : List AV) (ids : List Nat) {vs : List Value}, purL f cs = some (cs', ids) → VRels w S β cs vs → VRels w (With S og ids) β cs' vs
  | [], cs', ids, vs, h, hv => by simp [purL] at h; obtain ⟨rfl, rfl⟩ := h; rw [hv.inv_nil]; exact VRels.nil
  | c :: cs, cs', ids, vs, h, hv => by
    simp only [purL] at h
    cases hc : f c with
    | none => simp [hc] at h
    | some q =>
      cases hq : purL f cs with
      | none => simp [hc, hq] at h
      | some q' =>
        simp [hc, hq] at h
        obtain ⟨rfl, rfl⟩ := h
        obtain ⟨u, us, rfl, hu, hus⟩ := hv.inv
        exact VRels.cons ((hf c q.1 q.2 u hc hu).keepS fun b => With.sub (fun i hi => by simp [hi])) ((purL_soundX hf cs q'.1 q'.2 hq hus).keepS fun b => With.sub (fun i hi => by simp [hi]))

theorem opn1_sound (hrow : ∀ id r, lookup rows id = some r → RowRel w S B β id (og id) r) : ∀ (n : Nat) (v v' : AV) (ids : List Nat) (u : Value), opn1 rows n v = some (v', ids) → VRel w S β v u → VRel w (With S og ids) β v' u := by
  intro n
  induction n with
  | zero => intro v v' ids u h; simp [opn1] at h
  | succ n ih =>
    intro v v' ids u h hv
    have hL := purL_soundX (w := w) (S := S) (β := β) (og := og) (f := opn1 rows n) ih
    have pure : ∀ x, pur1 rows depth x = some (v', ids) → VRel w S β x u → VRel w (With S og ids) β v' u := fun x hx hv =>
      (pur1_sound (w := w) (S := S) (B := B) (β := β) (og := og) (rows := rows) hrow depth _ _ _ _ hx hv).mono (fun _ h => h) (fun _ _ => rfl) (fun _ _ h => by cases h)
    cases v <;> simp only [opn1] at h
    case ptr i off =>
      split at h
      · cases h; exact hv.keepS fun _ => With.left
      · exact pure _ h hv
      · cases h
    case eptr i j off =>
      split at h
      · cases h; exact hv.keepS fun _ => With.left
      · exact pure _ h hv
      · cases h
    case own i =>
      split at h
      · cases h; exact hv.keepS fun _ => With.left
      · exact pure _ h hv
      · cases h
    case sub i lo m =>
      split at h
      · cases h; exact hv.keepS fun _ => With.left
      · exact pure _ h hv
      · cases h
    case agg cs =>
      cases hp : purL (opn1 rows n) cs with
      | none => simp [hp] at h
      | some q =>
        simp [hp] at h
        obtain ⟨rfl, rfl⟩ := h
        cases hv with
        | agg _ _ vs hl h1 hh =>
          have := hL cs q.1 q.2 hp ⟨hl, hh⟩
          exact .agg _ _ _ this.1 h1 this.2
    case tup cs =>
      cases hp : purL (opn1 rows n) cs with
      | none => simp [hp] at h
      | some q =>
        simp [hp] at h
        obtain ⟨rfl, rfl⟩ := h
        cases hv with
        | tup _ _ vs hl hh =>
          have := hL cs q.1 q.2 hp ⟨hl, hh⟩
          exact .tup _ _ _ this.1 this.2
    case fn f cs =>
      cases hp : purL (opn1 rows n) cs with
      | none => simp [hp] at h
      | some q =>
        simp [hp] at h
        obtain ⟨rfl, rfl⟩ := h
        cases hv with
        | fn _ _ _ vs hl hh =>
          have := hL cs q.1 q.2 hp ⟨hl, hh⟩
          exact .fn _ _ _ _ this.1 this.2
    all_goals (cases h; exact hv.keepS fun _ => With.left)

theorem opn1_in : ∀ (n : Nat) (v : AV) (p : AV × List Nat), opn1 rows n v = some p → ∀ id ∈ p.2, ∃ r, lookup rows id = some r := by
  intro n
  induction n with
  | zero => intro v p h; simp [opn1] at h
  | succ n ih =>
    intro v p h id hid
    have hL := purL_in (rows := rows) (f := opn1 rows n) ih
    have pure : ∀ x, pur1 rows depth x = some p → ∃ r, lookup rows id = some r := fun x hx => pur1_in _ _ _ hx id hid
    cases v <;> simp only [opn1] at h
    case ptr i off =>
      split at h
      · cases h; simp at hid
      · exact pure _ h
      · cases h
    case eptr i j off =>
      split at h
      · cases h; simp at hid
      · exact pure _ h
      · cases h
    case own i =>
      split at h
      · cases h; simp at hid
      · exact pure _ h
      · cases h
    case sub i lo m =>
      split at h
      · cases h; simp at hid
      · exact pure _ h
      · cases h
    case agg cs =>
      cases hp : purL (opn1 rows n) cs with
      | none => simp [hp] at h
      | some q => simp [hp] at h; subst h; exact hL cs q hp id hid
    case tup cs =>
      cases hp : purL (opn1 rows n) cs with
      | none => simp [hp] at h
      | some q => simp [hp] at h; subst h; exact hL cs q hp id hid
    case fn f cs =>
      cases hp : purL (opn1 rows n) cs with
      | none => simp [hp] at h
      | some q => simp [hp] at h; subst h; exact hL cs q hp id hid
    all_goals (cases h; simp at hid)

theorem rowsAt_in : ∀ (ids : List Nat) (q : List Row × List Nat), rowsAt rows ids = some q → ∀ id ∈ q.2, ∃ r, lookup rows id = some r
  | [], q, h, id, hid => by simp [rowsAt] at h; subst h; simp at hid
  | i :: is, q, h, id, hid => by
    simp only [rowsAt] at h
    split at h
    · cases h
    · rename_i q' hq
      split at h
      · rename_i cs hl
        split at h
        · rename_i p hp
          cases h
          simp only [List.mem_append] at hid
          rcases hid with hid | hid
          · exact purL_in (rows := rows) (opn1_in depth) _ _ hp id hid
          · exact rowsAt_in is q' hq id hid
        · cases h
      · cases h
        exact rowsAt_in is q' hq id hid
      · cases h

/-- The rows that are handed over. -/
theorem rowsAt_sound (hrow : ∀ id r, lookup rows id = some r → RowRel w S B β id (og id) r) (inj : ∀ id id' g, og id = some g → og id' = some g → id = id') : ∀ (ids : List Nat) (rs : List Row) (fz fz' : List Nat), rowsAt rows ids = some (rs, fz) → (∀ i ∈ fz, i ∈ fz') → (∀ i ∈ fz', i ∉ ids) →
    rs.length = ids.length ∧ ∀ (j i : Nat), ids[j]? = some i → ∃ r r0, rs[j]? = some r ∧ lookup rows i = some r0 ∧ r0.imm = false ∧ RowRel w (With S og fz') B β i (og i) r ∧ r.imm = false
  | [], rs, fz, fz', h, _, _ => by simp [rowsAt] at h; obtain ⟨rfl, rfl⟩ := h; exact ⟨rfl, fun j i hj => by simp at hj⟩
  | i :: is, rs, fz, fz', h, hfz, hd => by
    have key : ∀ (r : Row), lookup rows i = some r → r.imm = false → RowRel w (With S og fz') B β i (og i) r := fun r hr him =>
      (hrow i r hr).keep (fun _ _ h => h) (fun _ => With.left) (fun g hg hs => by
        rcases hs with hs | ⟨i', hi', hg'⟩
        · exact hs
        · exact absurd (inj i i' g hg hg' ▸ hi' : i ∈ fz') (fun h => hd i h (by simp))) (fun _ _ => rfl) (fun _ _ => rfl)
    simp only [rowsAt] at h
    split at h
    · cases h
    · rename_i q' hq
      obtain ⟨rs', fz2⟩ := q'
      have step : ∀ (r r0 : Row), lookup rows i = some r0 → r0.imm = false → RowRel w (With S og fz') B β i (og i) r → r.imm = false → rs = r :: rs' → (∀ x ∈ fz2, x ∈ fz') → rs.length = (i :: is).length ∧ ∀ (j i' : Nat), (i :: is)[j]? = some i' → ∃ r r0, rs[j]? = some r ∧ lookup rows i' = some r0 ∧ r0.imm = false ∧ RowRel w (With S og fz') B β i' (og i') r ∧ r.imm = false := by
        intro r r0 hl h0 hr hi he hf2
        subst he
        obtain ⟨i1, i2⟩ := rowsAt_sound hrow inj is rs' fz2 fz' hq hf2 (fun x hx hin => hd x hx (by simp [hin]))
        refine ⟨by simp [i1], fun j i' hj => ?_⟩
        cases j with
        | zero => simp at hj; subst hj; exact ⟨r, r0, rfl, hl, h0, hr, hi⟩
        | succ j => simp at hj; simpa using i2 j i' hj
      split at h
      · rename_i cs hl
        split at h
        · rename_i p hp
          cases h
          refine step _ _ hl rfl ?_ rfl rfl (fun x hx => hfz x (by simp [hx]))
          obtain ⟨g, vs, t, ho, hb, hh, h1, hv, hi, hj, hBg⟩ := hrow i _ hl
          obtain ⟨_, _, _, ho', _, _, _, _, hi', _, _⟩ := key _ hl rfl
          rw [ho] at ho'
          cases ho'
          obtain ⟨p1, p2⟩ := p
          exact ⟨g, vs, t, ho, hb, hh, h1, (purL_soundX (opn1_sound hrow depth) cs p1 p2 hp hv).keepS fun b => With.sub (fun x hx => hfz x (by simp [hx])), hi', (fun h => by cases h), hBg⟩
        · cases h
      · rename_i s e es sp hl
        cases h
        exact step _ _ hl rfl (key _ hl rfl) rfl rfl hfz
      · cases h
end opn

/-! ### Tables of numbers -/
theorem idx_some : ∀ (l : List Nat) (i j : Nat), idx l i = some j → l[j]? = some i
  | [], i, j, h => by simp [idx] at h
  | x :: l, i, j, h => by
    simp only [idx] at h
    split at h
    · rename_i e; cases h; simp [e]
    · cases hi : idx l i with
      | none => simp [hi] at h
      | some k => simp [hi] at h; subst h; simpa using idx_some l i k hi
theorem nodupB_spec : ∀ (l : List Nat), nodupB l = true → ∀ (j j' i : Nat), l[j]? = some i → l[j']? = some i → j = j'
  | [], _, j, j', i, h, _ => by simp at h
  | x :: l, h, j, j', i, hj, hj' => by
    simp only [nodupB, Bool.and_eq_true, Bool.not_eq_true'] at h
    have hx : x ∉ l := by simpa using h.1
    cases j <;> cases j' <;> simp at hj hj'
    · rfl
    · subst hj; exact absurd (List.mem_of_getElem? hj') hx
    · subst hj'; exact absurd (List.mem_of_getElem? hj) hx
    · rw [nodupB_spec l h.2 _ _ i hj hj']
theorem lookup_zipIds : ∀ (rs : List Row) (b id : Nat) (r : Row), lookup (zipIds b rs) id = some r → b ≤ id ∧ rs[id - b]? = some r
  | [], b, id, r, h => by simp [zipIds, lookup] at h
  | x :: rs, b, id, r, h => by
    simp only [zipIds, lookup] at h
    split at h
    · rename_i e; cases h; subst e; simp
    · obtain ⟨h1, h2⟩ := lookup_zipIds rs (b + 1) id r h
      refine ⟨by omega, ?_⟩
      rw [show id - b = (id - (b + 1)) + 1 from by omega]
      simpa using h2
theorem lookup_foldl_set : ∀ (l : List (Nat × Row)) (rows : List (Nat × Row)) (id : Nat) (r : Row), lookup (l.foldl (fun rs p => setRow rs p.1 p.2) rows) id = some r → (id, r) ∈ l ∨ ((∀ p ∈ l, p.1 ≠ id) ∧ lookup rows id = some r)
  | [], rows, id, r, h => .inr ⟨by simp, h⟩
  | (i, x) :: l, rows, id, r, h => by
    simp only [List.foldl_cons] at h
    rcases lookup_foldl_set l _ id r h with h | ⟨h1, h2⟩
    · exact .inl (by simp [h])
    · rw [lookup_setRow] at h2
      split at h2
      · rename_i e; cases h2; subst e; exact .inl (by simp)
      · rename_i e
        refine .inr ⟨fun p hp => ?_, h2⟩
        rcases List.mem_cons.1 hp with rfl | hp
        · exact fun e' => e e'.symm
        · exact h1 p hp
theorem lookup_foldl_del : ∀ (l : List Nat) (rows : List (Nat × Row)) (id : Nat) (r : Row), lookup (l.foldl delRow rows) id = some r → id ∉ l ∧ lookup rows id = some r
  | [], rows, id, r, h => ⟨by simp, h⟩
  | i :: l, rows, id, r, h => by
    simp only [List.foldl_cons] at h
    obtain ⟨h1, h2⟩ := lookup_foldl_del l _ id r h
    rw [lookup_delRow] at h2
    split at h2
    · cases h2
    · rename_i e; exact ⟨by simp only [List.mem_cons, not_or]; exact ⟨e, h1⟩, h2⟩
theorem delsOf_mem : ∀ (ids : List Nat) (rs : List (Option Row)) (j i : Nat), ids[j]? = some i → rs[j]? = some none → i ∈ delsOf ids rs
  | [], _, j, i, h, _ => by simp at h
  | _ :: _, [], j, i, _, h => by simp at h
  | x :: ids, y :: rs, j, i, h, h' => by
    cases j with
    | zero => simp at h h'; subst h; subst h'; simp [delsOf]
    | succ j =>
      have := delsOf_mem ids rs j i (by simpa using h) (by simpa using h')
      cases y <;> simp [delsOf, this]
theorem modsOf_mem (m : Nat → Option Nat) : ∀ (ids : List Nat) (rs : List (Option Row)) (j i : Nat) (r : Row), ids[j]? = some i → rs[j]? = some (some r) → (i, r.ren m) ∈ modsOf m ids rs
  | [], _, j, i, r, h, _ => by simp at h
  | _ :: _, [], j, i, r, _, h => by simp at h
  | x :: ids, y :: rs, j, i, r, h, h' => by
    cases j with
    | zero => simp at h h'; subst h; subst h'; simp [modsOf]
    | succ j =>
      have := modsOf_mem m ids rs j i r (by simpa using h) (by simpa using h')
      cases y <;> simp [modsOf, this]
theorem modsOf_inv (m : Nat → Option Nat) : ∀ (ids : List Nat) (rs : List (Option Row)) (i : Nat) (r : Row), (i, r) ∈ modsOf m ids rs → ∃ (j : Nat) (r0 : Row), ids[j]? = some i ∧ rs[j]? = some (some r0) ∧ r = r0.ren m
  | [], _, i, r, h => by simp [modsOf] at h
  | _ :: _, [], i, r, h => by simp [modsOf] at h
  | x :: ids, y :: rs, i, r, h => by
    cases y with
    | none =>
      simp only [modsOf] at h
      obtain ⟨j, r0, h1, h2, h3⟩ := modsOf_inv m ids rs i r h
      exact ⟨j + 1, r0, by simpa using h1, by simpa using h2, h3⟩
    | some z =>
      simp only [modsOf, List.mem_cons, Prod.mk.injEq] at h
      rcases h with ⟨rfl, rfl⟩ | h
      · exact ⟨0, z, rfl, rfl, rfl⟩
      · obtain ⟨j, r0, h1, h2, h3⟩ := modsOf_inv m ids rs i r h
        exact ⟨j + 1, r0, by simpa using h1, by simpa using h2, h3⟩
theorem newsOf_inv (m : Nat → Option Nat) (site : Nat) : ∀ (rs : List Row) (b i : Nat) (r : Row), (i, r) ∈ newsOf m site b rs → ∃ (j : Nat) (r0 : Row), i = newId site (b + j) ∧ rs[j]? = some r0 ∧ r = r0.ren m
  | [], b, i, r, h => by simp [newsOf] at h
  | x :: rs, b, i, r, h => by
    simp only [newsOf, List.mem_cons, Prod.mk.injEq] at h
    rcases h with ⟨rfl, rfl⟩ | h
    · exact ⟨0, x, rfl, rfl, rfl⟩
    · obtain ⟨j, r0, h1, h2, h3⟩ := newsOf_inv m site rs (b + 1) i r h
      exact ⟨j + 1, r0, by rw [h1]; congr 1; omega, by simpa using h2, h3⟩
theorem newsOf_keys (m : Nat → Option Nat) (site : Nat) : ∀ (rs : List Row) (b j : Nat), j < rs.length → newId site (b + j) ∈ (newsOf m site b rs).map (·.1)
  | [], b, j, h => by simp at h
  | x :: rs, b, j, h => by
    cases j with
    | zero => simp [newsOf]
    | succ j =>
      have := newsOf_keys m site rs (b + 1) j (by simpa using h)
      rw [show b + 1 + j = b + (j + 1) from by omega] at this
      simp only [newsOf, List.map_cons, List.mem_cons]
      exact .inr this
theorem newId_inj {site j j' : Nat} (h : newId site j = newId site j') : j = j' := by unfold newId at h; omega

end Go.Ev
