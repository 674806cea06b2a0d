/-
  Regions in the order of their text; what a loop's head forgets.
-/
import Derived.Test.YtpmlhkoianekfaaGreatDoorEvMB
import Derived.RangeFuncRecord
import Derived.Laws.IdiomStrings
import Derived.Laws.Cover4
import Derived.LoopN

namespace Go.Ev
open Go.RowKit
theorem rens_at (m : Nat → Option Nat) : ∀ (cs : List AV) (j : Nat) (c : AV), (AV.rens m cs)[j]? = some c → ∃ c', cs[j]? = some c' ∧ c = c'.ren m := by
  intro cs
  induction cs with
  | nil => intro j c hc; simp [AV.rens] at hc
  | cons x cs ih =>
    intro j c hc
    cases j with
    | zero => simp [AV.rens] at hc; exact ⟨x, rfl, hc.symm⟩
    | succ j => simp only [AV.rens, List.getElem?_cons_succ] at hc; obtain ⟨c', h1, h2⟩ := ih j c hc; exact ⟨c', by simpa using h1, h2⟩
theorem rens_length (m : Nat → Option Nat) : ∀ cs : List AV, (AV.rens m cs).length = cs.length := by
  intro cs
  induction cs with
  | nil => rfl
  | cons x cs ih => simp [AV.rens, ih]
theorem ren_rel {w : World} {S : Nat → Prop} {m : Nat → Option Nat} {β : Bet} {v : AV} {u : Value} (h : VRel w S β v u) : ∀ {β' : Bet}, (∀ id x j, β id = some x → m id = some j → β' j = some x) → VRel w S β' (v.ren m) u := by
  induction h with
  | unk β v => intro β' _; exact .unk _ v
  | undef => intro β' _; exact .undef _
  | int β k n => intro β' _; exact .int _ k n
  | bool β b => intro β' _; exact .bool _ b
  | ubool β b => intro β' _; exact .ubool _ b
  | nl β v h => intro β' _; exact .nl _ v h
  | str β s => intro β' _; exact .str _ s
  | agg β cs vs hl h1 _ ih =>
    intro β' hm
    refine .agg _ _ vs (by rw [rens_length]; exact hl) h1 fun j c u hc hu => ?_
    obtain ⟨c', hc', rfl⟩ := rens_at m cs j c hc
    exact ih j c' u hc' hu hm
  | tup β cs vs hl _ ih =>
    intro β' hm
    refine .tup _ _ vs (by rw [rens_length]; exact hl) fun j c u hc hu => ?_
    obtain ⟨c', hc', rfl⟩ := rens_at m cs j c hc
    exact ih j c' u hc' hu hm
  | slv β s es A c a xs hs hc hm hA hl h1 hx hh _ => intro β' _; exact .slv _ s es A c a xs hs hc hm hA hl h1 hx hh
  | slz β s A => intro β' _; exact .slz _ s A
  | eref β s es i off a xs hi hs hSa hl h1 hx hh _ => intro β' _; exact .eref _ s es i off a xs hi hs hSa hl h1 hx hh
  | ref β cs a xs hSa hl h1 hx hh _ => intro β' _; exact .ref _ cs a xs hSa hl h1 hx hh
  | ifr β t cs v hh _ => intro β' _; exact .ifr _ t cs v hh
  | ptr β id off g wd hbt =>
    intro β' hm
    simp only [AV.ren]
    split
    · rename_i j hj; exact .ptr _ j off g wd (hm _ _ _ hbt hj)
    · exact .unk _ _
  | eptr β id i off g n c wd hbt =>
    intro β' hm
    simp only [AV.ren]
    split
    · rename_i j hj; exact .eptr _ j i off g n c wd (hm _ _ _ hbt hj)
    · exact .unk _ _
  | own β id v wd hbt =>
    intro β' hm
    simp only [AV.ren]
    split
    · rename_i j hj; exact .own _ j v wd (hm _ _ _ hbt hj)
    · exact .unk _ _
  | sub β id lo len A n c wd hbt =>
    intro β' hm
    simp only [AV.ren]
    split
    · rename_i j hj; exact .sub _ j lo len A n c wd (hm _ _ _ hbt hj)
    · exact .unk _ _
  | fn β f cs vs hl _ ih =>
    intro β' hm
    refine .fn _ f _ vs (by rw [rens_length]; exact hl) fun j c u hc hu => ?_
    obtain ⟨c', hc', rfl⟩ := rens_at m cs j c hc
    exact ih j c' u hc' hu hm
theorem rens_rel {w : World} {S : Nat → Prop} {m : Nat → Option Nat} {β β' : Bet} (hm : ∀ id x j, β id = some x → m id = some j → β' j = some x) {cs : List AV} {vs : List Value} (h : VRels w S β cs vs) : VRels w S β' (AV.rens m cs) vs := by
  refine ⟨by rw [rens_length]; exact h.1, fun j c u hc hu => ?_⟩
  obtain ⟨c', hc', rfl⟩ := rens_at m cs j c hc
  exact ren_rel (h.2 j c' u hc' hu) hm
theorem RowRel.ren {w : World} {S B B' : Nat → Prop} {β β' : Bet} {m : Nat → Option Nat} {id id' : Nat} {o : Option Nat} {r : Row} (h : RowRel w S B β id o r) (hm : ∀ id x j, β id = some x → m id = some j → β' j = some x) (hid : ∀ x, β id = some x → β' id' = some x) (hB : ∀ g, o = some g → ¬ B g → ¬ B' g) :
    RowRel w S B' β' id' o (r.ren m) := by
  cases r with
  | box imm cs =>
    obtain ⟨g, vs, t, ho, hb, hh, hv, hi, hj, hBg⟩ := h
    exact ⟨g, vs, t, ho, hid _ hb, hh, rens_rel hm hv, hi, hj, hB g ho hBg⟩
  | arr imm s e es csp =>
    obtain ⟨hp, v, sp, xs, hsh, hcs, hb, h1, hv, hor⟩ := h
    refine ⟨hp, v, sp, xs, hsh, hcs, hid _ hb, h1, hv, ?_⟩
    rcases hor with h | ⟨g, ho, hvv, hBg, rest⟩
    · exact .inl h
    · exact .inr ⟨g, ho, hvv, hB g ho hBg, rest⟩
  | foc imm s e pre cs post =>
    obtain ⟨hp, hcl, g, sp, xs, us, ys, h1, h2, ho, hb, h3, vx, vu, vy, hBg, rest⟩ := h
    exact ⟨hp, by rw [rens_length]; exact hcl, g, sp, xs, us, ys, h1, h2, ho, hid _ hb, h3, vx, rens_rel hm vu, vy, hB g ho hBg, rest⟩
theorem RowRel.forget {w : World} {S B : Nat → Prop} {β : Bet} {id : Nat} {o : Option Nat} {r : Row} (h : RowRel w S B β id o r) : RowRel w S B β id o r.forget := by
  cases r with
  | box imm cs => exact h
  | arr imm s e es csp =>
    obtain ⟨hp, v, sp, xs, hsh, hcs, rest⟩ := h
    exact ⟨hp, v, sp, xs, hsh, (fun c h => by cases h), rest⟩
  | foc imm s e pre cs post => exact h
theorem RowRel.place {w : World} {S B : Nat → Prop} {β : Bet} {id : Nat} {o : Option Nat} {r : Row} (h : RowRel w S B β id o r) : (∃ x, β id = some x) ∧ ∀ g, o = some g → ¬ B g := by
  cases r with
  | box imm cs =>
    obtain ⟨g, vs, t, ho, hb, hh, hv, hi, hj, hBg⟩ := h
    exact ⟨⟨_, hb⟩, fun g' hg' => by rw [ho] at hg'; cases hg'; exact hBg⟩
  | arr imm s e es csp =>
    obtain ⟨hp, v, sp, xs, hsh, hcs, hb, h1, hv, hor⟩ := h
    refine ⟨⟨_, hb⟩, fun g' hg' => ?_⟩
    rcases hor with ⟨_, _, ho, _⟩ | ⟨g, ho, hvv, hBg, rest⟩
    · rw [ho] at hg'; cases hg'
    · rw [ho] at hg'; cases hg'; exact hBg
  | foc imm s e pre cs post =>
    obtain ⟨hp, hcl, g, sp, xs, us, ys, h1, h2, ho, hb, h3, vx, vu, vy, hBg, rest⟩ := h
    exact ⟨⟨_, hb⟩, fun g' hg' => by rw [ho] at hg'; cases hg'; exact hBg⟩
def Row.imm : Row → Bool
  | .box i _ => i
  | .arr i _ _ _ _ => i
  | .foc i _ _ _ _ _ => i
theorem RowRel.free {w : World} {S B : Nat → Prop} {β : Bet} {id : Nat} {o : Option Nat} {r : Row} (h : RowRel w S B β id o r) (hi : r.imm = false) : ∀ g, o = some g → ¬ S g := by
  cases r with
  | box imm cs =>
    obtain ⟨g, vs, t, ho, hb, hh, hv, hi', hj, hBg⟩ := h
    intro g' hg'; rw [ho] at hg'; cases hg'; exact hi' hi
  | arr imm s e es csp =>
    obtain ⟨hp, v, sp, xs, hsh, hcs, hb, h1, hv, hor⟩ := h
    intro g' hg'
    rcases hor with ⟨_, _, ho, _⟩ | ⟨g, ho, hvv, hBg, _, _, hi', _⟩
    · rw [ho] at hg'; cases hg'
    · rw [ho] at hg'; cases hg'; exact hi' hi
  | foc imm s e pre cs post =>
    obtain ⟨hp, hcl, g, sp, xs, us, ys, h1, h2, ho, hb, h3, vx, vu, vy, hBg, hh, hm, hi', _⟩ := h
    intro g' hg'
    rw [ho] at hg'
    cases hg'
    exact hi' hi
section opn
variable {w : World} {S B : Nat → Prop} {β : Bet} {og : Nat → Option Nat} {rows : List (Nat × Row)}
theorem purL_soundX {f : AV → Option (AV × List Nat)} (hf : ∀ v v' ids u, f v = some (v', ids) → VRel w S β v u → VRel w (With S og ids) β v' u) :
    ∀ (cs : List AV) (cs' : List AV) (ids : List Nat) {vs : List Value}, purL f cs = some (cs', ids) → VRels w S β cs vs → VRels w (With S og ids) β cs' vs
  | [], cs', ids, vs, h, hv => by simp [purL] at h; obtain ⟨rfl, rfl⟩ := h; rw [hv.inv_nil]; exact VRels.nil
  | c :: cs, cs', ids, vs, h, hv => by
    simp only [purL] at h
    cases hc : f c with
    | none => simp [hc] at h
    | some q =>
      cases hq : purL f cs with
      | none => simp [hc, hq] at h
      | some q' =>
        simp [hc, hq] at h
        obtain ⟨rfl, rfl⟩ := h
        obtain ⟨u, us, rfl, hu, hus⟩ := hv.inv
        exact VRels.cons ((hf c q.1 q.2 u hc hu).keepS fun b => With.sub (fun i hi => by simp [hi])) ((purL_soundX hf cs q'.1 q'.2 hq hus).keepS fun b => With.sub (fun i hi => by simp [hi]))
theorem opn1_sound (hrow : ∀ id r, lookup rows id = some r → RowRel w S B β id (og id) r) : ∀ (n : Nat) (v v' : AV) (ids : List Nat) (u : Value), opn1 rows n v = some (v', ids) → VRel w S β v u → VRel w (With S og ids) β v' u := by
  intro n
  induction n with
  | zero => intro v v' ids u h; simp [opn1] at h
  | succ n ih =>
    intro v v' ids u h hv
    have hL := purL_soundX (w := w) (S := S) (β := β) (og := og) (f := opn1 rows n) ih
    have pure : ∀ x, pur1 rows depth x = some (v', ids) → VRel w S β x u → VRel w (With S og ids) β v' u := fun x hx hv =>
      (pur1_sound (w := w) (S := S) (B := B) (β := β) (og := og) (rows := rows) hrow depth _ _ _ _ hx hv).mono (fun _ h => h) (fun _ _ => rfl) (fun _ _ h => by cases h)
    cases v <;> simp only [opn1] at h
    case ptr i off =>
      split at h
      · cases h; exact hv.keepS fun _ => With.left
      · exact pure _ h hv
      · cases h
    case eptr i j off =>
      split at h
      · cases h; exact hv.keepS fun _ => With.left
      · exact pure _ h hv
      · cases h
    case own i =>
      split at h
      · cases h; exact hv.keepS fun _ => With.left
      · exact pure _ h hv
      · cases h; exact hv.keepS fun _ => With.left
      · exact pure _ h hv
      · cases h; exact hv.keepS fun _ => With.left
      · cases h
    case sub i lo m =>
      split at h
      · cases h; exact hv.keepS fun _ => With.left
      · exact pure _ h hv
      · cases h
    case agg cs =>
      cases hp : purL (opn1 rows n) cs with
      | none => simp [hp] at h
      | some q =>
        simp [hp] at h
        obtain ⟨rfl, rfl⟩ := h
        cases hv with
        | agg _ _ vs hl h1 hh =>
          have := hL cs q.1 q.2 hp ⟨hl, hh⟩
          exact .agg _ _ _ this.1 h1 this.2
    case tup cs =>
      cases hp : purL (opn1 rows n) cs with
      | none => simp [hp] at h
      | some q =>
        simp [hp] at h
        obtain ⟨rfl, rfl⟩ := h
        cases hv with
        | tup _ _ vs hl hh =>
          have := hL cs q.1 q.2 hp ⟨hl, hh⟩
          exact .tup _ _ _ this.1 this.2
    case fn f cs =>
      cases hp : purL (opn1 rows n) cs with
      | none => simp [hp] at h
      | some q =>
        simp [hp] at h
        obtain ⟨rfl, rfl⟩ := h
        cases hv with
        | fn _ _ _ vs hl hh =>
          have := hL cs q.1 q.2 hp ⟨hl, hh⟩
          exact .fn _ _ _ _ this.1 this.2
    all_goals (cases h; exact hv.keepS fun _ => With.left)
theorem opn1_in : ∀ (n : Nat) (v : AV) (p : AV × List Nat), opn1 rows n v = some p → ∀ id ∈ p.2, ∃ r, lookup rows id = some r := by
  intro n
  induction n with
  | zero => intro v p h; simp [opn1] at h
  | succ n ih =>
    intro v p h id hid
    have hL := purL_in (rows := rows) (f := opn1 rows n) ih
    have pure : ∀ x, pur1 rows depth x = some p → ∃ r, lookup rows id = some r := fun x hx => pur1_in _ _ _ hx id hid
    cases v <;> simp only [opn1] at h
    case ptr i off =>
      split at h
      · cases h; simp at hid
      · exact pure _ h
      · cases h
    case eptr i j off =>
      split at h
      · cases h; simp at hid
      · exact pure _ h
      · cases h
    case own i =>
      split at h
      · cases h; simp at hid
      · exact pure _ h
      · cases h; simp at hid
      · exact pure _ h
      · cases h; simp at hid
      · cases h
    case sub i lo m =>
      split at h
      · cases h; simp at hid
      · exact pure _ h
      · cases h
    case agg cs =>
      cases hp : purL (opn1 rows n) cs with
      | none => simp [hp] at h
      | some q => simp [hp] at h; subst h; exact hL cs q hp id hid
    case tup cs =>
      cases hp : purL (opn1 rows n) cs with
      | none => simp [hp] at h
      | some q => simp [hp] at h; subst h; exact hL cs q hp id hid
    case fn f cs =>
      cases hp : purL (opn1 rows n) cs with
      | none => simp [hp] at h
      | some q => simp [hp] at h; subst h; exact hL cs q hp id hid
    all_goals (cases h; simp at hid)
theorem rowsAt_in : ∀ (ids : List Nat) (q : List Row × List Nat), rowsAt rows ids = some q → ∀ id ∈ q.2, ∃ r, lookup rows id = some r
  | [], q, h, id, hid => by simp [rowsAt] at h; subst h; simp at hid
  | i :: is, q, h, id, hid => by
    simp only [rowsAt] at h
    split at h
    · cases h
    · rename_i q' hq
      split at h
      · rename_i cs hl
        split at h
        · rename_i p hp
          cases h
          simp only [List.mem_append] at hid
          rcases hid with hid | hid
          · exact purL_in (rows := rows) (opn1_in depth) _ _ hp id hid
          · exact rowsAt_in is q' hq id hid
        · cases h
      · cases h
        exact rowsAt_in is q' hq id hid
      · split at h
        · rename_i p hp
          cases h
          simp only [List.mem_append] at hid
          rcases hid with hid | hid
          · exact purL_in (rows := rows) (opn1_in depth) _ _ hp id hid
          · exact rowsAt_in is q' hq id hid
        · cases h
      · cases h
theorem rowsAt_sound (hrow : ∀ id r, lookup rows id = some r → RowRel w S B β id (og id) r) (inj : ∀ id id' g, og id = some g → og id' = some g → id = id') : ∀ (ids : List Nat) (rs : List Row) (fz fz' : List Nat), rowsAt rows ids = some (rs, fz) → (∀ i ∈ fz, i ∈ fz') → (∀ i ∈ fz', i ∉ ids) →
    rs.length = ids.length ∧ ∀ (j i : Nat), ids[j]? = some i → ∃ r r0, rs[j]? = some r ∧ lookup rows i = some r0 ∧ r0.imm = false ∧ RowRel w (With S og fz') B β i (og i) r ∧ r.imm = false
  | [], rs, fz, fz', h, _, _ => by simp [rowsAt] at h; obtain ⟨rfl, rfl⟩ := h; exact ⟨rfl, fun j i hj => by simp at hj⟩
  | i :: is, rs, fz, fz', h, hfz, hd => by
    have key : ∀ (r : Row), lookup rows i = some r → r.imm = false → RowRel w (With S og fz') B β i (og i) r := fun r hr him =>
      (hrow i r hr).keep (fun _ _ h => h) (fun _ => With.left) (fun g hg hs => by
        rcases hs with hs | ⟨i', hi', hg'⟩
        · exact hs
        · exact absurd (inj i i' g hg hg' ▸ hi' : i ∈ fz') (fun h => hd i h (by simp))) (fun _ _ => rfl) (fun _ _ => rfl)
    simp only [rowsAt] at h
    split at h
    · cases h
    · rename_i q' hq
      obtain ⟨rs', fz2⟩ := q'
      have step : ∀ (r r0 : Row), lookup rows i = some r0 → r0.imm = false → RowRel w (With S og fz') B β i (og i) r → r.imm = false → rs = r :: rs' → (∀ x ∈ fz2, x ∈ fz') → rs.length = (i :: is).length ∧ ∀ (j i' : Nat), (i :: is)[j]? = some i' → ∃ r r0, rs[j]? = some r ∧ lookup rows i' = some r0 ∧ r0.imm = false ∧ RowRel w (With S og fz') B β i' (og i') r ∧ r.imm = false := by
        intro r r0 hl h0 hr hi he hf2
        subst he
        obtain ⟨i1, i2⟩ := rowsAt_sound hrow inj is rs' fz2 fz' hq hf2 (fun x hx hin => hd x hx (by simp [hin]))
        refine ⟨by simp [i1], fun j i' hj => ?_⟩
        cases j with
        | zero => simp at hj; subst hj; exact ⟨r, r0, rfl, hl, h0, hr, hi⟩
        | succ j => simp at hj; simpa using i2 j i' hj
      split at h
      · rename_i cs hl
        split at h
        · rename_i p hp
          cases h
          refine step _ _ hl rfl ?_ rfl rfl (fun x hx => hfz x (by simp [hx]))
          obtain ⟨g, vs, t, ho, hb, hh, hv, hi, hj, hBg⟩ := hrow i _ hl
          obtain ⟨_, _, _, ho', _, _, _, hi', _, _⟩ := key _ hl rfl
          rw [ho] at ho'
          cases ho'
          obtain ⟨p1, p2⟩ := p
          exact ⟨g, vs, t, ho, hb, hh, (purL_soundX (opn1_sound hrow depth) cs p1 p2 hp hv).keepS fun b => With.sub (fun x hx => hfz x (by simp [hx])), hi', (fun h => by cases h), hBg⟩
        · cases h
      · rename_i s e es sp hl
        cases h
        exact step _ _ hl rfl (key _ hl rfl) rfl rfl hfz
      · rename_i s e pre cs post hl
        split at h
        · rename_i p hp
          cases h
          refine step _ _ hl rfl ?_ rfl rfl (fun x hx => hfz x (by simp [hx]))
          obtain ⟨q1, q2, g, sp, xs, us, ys, h1, h2, ho, hb, h3, vx, vu, vy, hBg, hh, hm, hi, hj⟩ := hrow i _ hl
          obtain ⟨_, _, _, _, _, _, _, _, _, ho', _, _, _, _, _, _, _, _, hi', _⟩ := key _ hl rfl
          rw [ho] at ho'
          cases ho'
          have hlen := purL_length cs p hp
          obtain ⟨p1, p2⟩ := p
          exact ⟨q1, hlen.trans q2, g, sp, xs, us, ys, h1, h2, ho, hb, h3, vx.keepS fun b => With.left, (purL_soundX (opn1_sound hrow depth) cs p1 p2 hp vu).keepS fun b => With.sub (fun x hx => hfz x (by simp [hx])), vy.keepS fun b => With.left, hBg, hh, hm, hi', (fun h => by cases h)⟩
        · cases h
      · cases h
end opn
theorem idx_some : ∀ (l : List Nat) (i j : Nat), idx l i = some j → l[j]? = some i
  | [], i, j, h => by simp [idx] at h
  | x :: l, i, j, h => by
    simp only [idx] at h
    split at h
    · rename_i e; cases h; simp [e]
    · cases hi : idx l i with
      | none => simp [hi] at h
      | some k => simp [hi] at h; subst h; simpa using idx_some l i k hi
theorem nodupB_spec : ∀ (l : List Nat), nodupB l = true → ∀ (j j' i : Nat), l[j]? = some i → l[j']? = some i → j = j'
  | [], _, j, j', i, h, _ => by simp at h
  | x :: l, h, j, j', i, hj, hj' => by
    simp only [nodupB, Bool.and_eq_true, Bool.not_eq_true'] at h
    have hx : x ∉ l := by simpa using h.1
    cases j <;> cases j' <;> simp at hj hj'
    · rfl
    · subst hj; exact absurd (List.mem_of_getElem? hj') hx
    · subst hj'; exact absurd (List.mem_of_getElem? hj) hx
    · rw [nodupB_spec l h.2 _ _ i hj hj']
theorem lookup_zipIds : ∀ (rs : List Row) (b id : Nat) (r : Row), lookup (zipIds b rs) id = some r → b ≤ id ∧ rs[id - b]? = some r
  | [], b, id, r, h => by simp [zipIds, lookup] at h
  | x :: rs, b, id, r, h => by
    simp only [zipIds, lookup] at h
    split at h
    · rename_i e; cases h; subst e; simp
    · obtain ⟨h1, h2⟩ := lookup_zipIds rs (b + 1) id r h
      refine ⟨by omega, ?_⟩
      rw [show id - b = (id - (b + 1)) + 1 from by omega]
      simpa using h2
theorem lookup_foldl_set : ∀ (l : List (Nat × Row)) (rows : List (Nat × Row)) (id : Nat) (r : Row), lookup (l.foldl (fun rs p => setRow rs p.1 p.2) rows) id = some r → (id, r) ∈ l ∨ ((∀ p ∈ l, p.1 ≠ id) ∧ lookup rows id = some r)
  | [], rows, id, r, h => .inr ⟨by simp, h⟩
  | (i, x) :: l, rows, id, r, h => by
    simp only [List.foldl_cons] at h
    rcases lookup_foldl_set l _ id r h with h | ⟨h1, h2⟩
    · exact .inl (by simp [h])
    · rw [lookup_setRow] at h2
      split at h2
      · rename_i e; cases h2; subst e; exact .inl (by simp)
      · rename_i e
        refine .inr ⟨fun p hp => ?_, h2⟩
        rcases List.mem_cons.1 hp with rfl | hp
        · exact fun e' => e e'.symm
        · exact h1 p hp
theorem lookup_foldl_del : ∀ (l : List Nat) (rows : List (Nat × Row)) (id : Nat) (r : Row), lookup (l.foldl delRow rows) id = some r → id ∉ l ∧ lookup rows id = some r
  | [], rows, id, r, h => ⟨by simp, h⟩
  | i :: l, rows, id, r, h => by
    simp only [List.foldl_cons] at h
    obtain ⟨h1, h2⟩ := lookup_foldl_del l _ id r h
    rw [lookup_delRow] at h2
    split at h2
    · cases h2
    · rename_i e; exact ⟨by simp only [List.mem_cons, not_or]; exact ⟨e, h1⟩, h2⟩
theorem delsOf_mem : ∀ (ids : List Nat) (rs : List (Option Row)) (j i : Nat), ids[j]? = some i → rs[j]? = some none → i ∈ delsOf ids rs
  | [], _, j, i, h, _ => by simp at h
  | _ :: _, [], j, i, _, h => by simp at h
  | x :: ids, y :: rs, j, i, h, h' => by
    cases j with
    | zero => simp at h h'; subst h; subst h'; simp [delsOf]
    | succ j =>
      have := delsOf_mem ids rs j i (by simpa using h) (by simpa using h')
      cases y <;> simp [delsOf, this]
theorem modsOf_mem (m : Nat → Option Nat) : ∀ (ids : List Nat) (rs : List (Option Row)) (j i : Nat) (r : Row), ids[j]? = some i → rs[j]? = some (some r) → (i, r.ren m) ∈ modsOf m ids rs
  | [], _, j, i, r, h, _ => by simp at h
  | _ :: _, [], j, i, r, _, h => by simp at h
  | x :: ids, y :: rs, j, i, r, h, h' => by
    cases j with
    | zero => simp at h h'; subst h; subst h'; simp [modsOf]
    | succ j =>
      have := modsOf_mem m ids rs j i r (by simpa using h) (by simpa using h')
      cases y <;> simp [modsOf, this]
theorem modsOf_inv (m : Nat → Option Nat) : ∀ (ids : List Nat) (rs : List (Option Row)) (i : Nat) (r : Row), (i, r) ∈ modsOf m ids rs → ∃ (j : Nat) (r0 : Row), ids[j]? = some i ∧ rs[j]? = some (some r0) ∧ r = r0.ren m
  | [], _, i, r, h => by simp [modsOf] at h
  | _ :: _, [], i, r, h => by simp [modsOf] at h
  | x :: ids, y :: rs, i, r, h => by
    cases y with
    | none =>
      simp only [modsOf] at h
      obtain ⟨j, r0, h1, h2, h3⟩ := modsOf_inv m ids rs i r h
      exact ⟨j + 1, r0, by simpa using h1, by simpa using h2, h3⟩
    | some z =>
      simp only [modsOf, List.mem_cons, Prod.mk.injEq] at h
      rcases h with ⟨rfl, rfl⟩ | h
      · exact ⟨0, z, rfl, rfl, rfl⟩
      · obtain ⟨j, r0, h1, h2, h3⟩ := modsOf_inv m ids rs i r h
        exact ⟨j + 1, r0, by simpa using h1, by simpa using h2, h3⟩
theorem newsOf_inv (m : Nat → Option Nat) (site : Nat) : ∀ (rs : List Row) (b i : Nat) (r : Row), (i, r) ∈ newsOf m site b rs → ∃ (j : Nat) (r0 : Row), i = newId site (b + j) ∧ rs[j]? = some r0 ∧ r = r0.ren m
  | [], b, i, r, h => by simp [newsOf] at h
  | x :: rs, b, i, r, h => by
    simp only [newsOf, List.mem_cons, Prod.mk.injEq] at h
    rcases h with ⟨rfl, rfl⟩ | h
    · exact ⟨0, x, rfl, rfl, rfl⟩
    · obtain ⟨j, r0, h1, h2, h3⟩ := newsOf_inv m site rs (b + 1) i r h
      exact ⟨j + 1, r0, by rw [h1]; congr 1; omega, by simpa using h2, h3⟩
theorem newsOf_keys (m : Nat → Option Nat) (site : Nat) : ∀ (rs : List Row) (b j : Nat), j < rs.length → newId site (b + j) ∈ (newsOf m site b rs).map (·.1)
  | [], b, j, h => by simp at h
  | x :: rs, b, j, h => by
    cases j with
    | zero => simp [newsOf]
    | succ j =>
      have := newsOf_keys m site rs (b + 1) j (by simpa using h)
      rw [show b + 1 + j = b + (j + 1) from by omega] at this
      simp only [newsOf, List.map_cons, List.mem_cons]
      exact .inr this
end Go.Ev


namespace Go.Ev
open Go.RowKit
structure Heap (w : World) (S B : Nat → Prop) (β : Bet) (og : Nat → Option Nat) (rows : List (Nat × Row)) : Prop where
  row : ∀ id r, lookup rows id = some r → RowRel w S B β id (og id) r
  inj : ∀ id id' g, og id = some g → og id' = some g → id = id'
  lt : ∀ id g, og id = some g → g < w.heap.size
  one : ∀ id x, β id = some x → x.1.oneCell' = true
  Slt : ∀ b, S b → b < w.heap.size
  Ble : ∀ b, B b → b < w.heap.size
structure After (w : World) (S B : Nat → Prop) (β : Bet) (prow : List (Option Row)) (nrow : List Row) (v : AV) (u : Value) (w' : World) (S' : Nat → Prop) (β' : Bet) (og' : Nat → Option Nat) : Prop where
  kept : Kept B w w'
  sub : ∀ b, S b → S' b
  sin : ∀ b, S' b → S b ∨ ¬ B b
  val : VRel w' S' β' v u
  prow : ∀ (j : Nat) (r : Row), prow[j]? = some (some r) → RowRel w' S' B β' (PID + j) (og' (PID + j)) r
  nrow : ∀ (j : Nat) (r : Row), nrow[j]? = some r → RowRel w' S' B β' (RID + j) (og' (RID + j)) r
  inj : ∀ id id' g, og' id = some g → og' id' = some g → id = id'
  lt : ∀ id g, og' id = some g → g < w'.heap.size
  one : ∀ id x, β' id = some x → x.1.oneCell' = true
  Slt : ∀ b, S' b → b < w'.heap.size
  bet : ∀ id x, id < RID → β' id = some x → β id = some x
def XOK (P : Program) (f : FuncId) (F : SummX) : Prop :=
  ∀ (ρ : Type) (w : World) (S B : Nat → Prop) (β : Bet) (og : Nat → Option Nat) (avs : List AV) (rows : List Row) (args : List Value) (k : AV → List (Option Row) → List Row → Option ρ) (r : ρ),
    Heap w S B β og (zipIds PID rows) → (∀ b, S b → B b) ∧ Glb B w → (∀ id x, β id = some x → PID ≤ id ∧ id < PID + rows.length) → VRels w S β avs args → F ρ avs rows k = some r →
    Goes P f args.toArray w fun e w' => ∃ u v prow nrow S' β' og', e = .returned u ∧ k v prow nrow = some r ∧ After w S B β prow nrow v u w' S' β' og'
def XNat (F : SummX) : Prop := ∀ (ρ : Type) (avs : List AV) (rows : List Row) (k : AV → List (Option Row) → List Row → Option ρ), F ρ avs rows k = (F (AV × List (Option Row) × List Row) avs rows fun v p n => some (v, p, n)).bind fun x => k x.1 x.2.1 x.2.2
def openBet {α : Type} (f : Nat → Option α) (ids : List Nat) (id : Nat) : Option α := if PID ≤ id then (ids[id - PID]?).bind f else none
theorem openBet_at {α : Type} (f : Nat → Option α) {ids : List Nat} {j i : Nat} (h : ids[j]? = some i) : openBet f ids (PID + j) = f i := by
  unfold openBet
  rw [if_pos (by omega), show PID + j - PID = j from by omega, h]
  rfl
theorem openBet_inv {α : Type} {f : Nat → Option α} {ids : List Nat} {id : Nat} {x : α} (h : openBet f ids id = some x) : ∃ j i, id = PID + j ∧ ids[j]? = some i ∧ f i = some x := by
  unfold openBet at h
  split at h
  · rename_i hp
    cases hi : ids[id - PID]? with
    | none => simp [hi] at h
    | some i => exact ⟨id - PID, i, by omega, hi, by simpa [hi] using h⟩
  · cases h
section ops
variable {R : Option Nat} {ρ : Type} {P : Program} {w0 w : World} {S0 S : Nat → Prop} {B : Ctx} {β : Bet} {og : Nat → Option Nat} {st : St} {a : Act} {o : Oper} {site : Nat} {y : Eff → Option ρ} {r : ρ}
  {K : Act → World → Prop} {Q : Exit → Act → World → Prop}
def isNew (site n id : Nat) : Option Nat := if id = newId site ((id - site) / 4294967296 - 1) then (if (id - site) / 4294967296 - 1 < n then some ((id - site) / 4294967296 - 1) else none) else none
theorem isNew_at {site n j : Nat} (h : j < n) : isNew site n (newId site j) = some j := by
  have e : (newId site j - site) / 4294967296 - 1 = j := by unfold newId; omega
  unfold isNew
  rw [e]
  simp [h]
theorem isNew_inv {site n id j : Nat} (h : isNew site n id = some j) : id = newId site j ∧ j < n := by
  unfold isNew at h
  split at h
  · rename_i e
    split at h
    · rename_i hl; cases h; exact ⟨e, hl⟩
    · cases h
  · cases h
theorem after_rel' (hR : Rel w S B β og st a) (hO : Out w0 S0 B w S) {ids : List Nat} (hnd : ∀ (j j' i : Nat), ids[j]? = some i → ids[j']? = some i → j = j') (himm : ∀ i ∈ ids, ∃ r, lookup st.rows i = some r ∧ r.imm = false) (hsm : ids.length ≤ 1000000)
    {prow : List (Option Row)} {nrow : List Row} {v : AV} {u : Value} {w' : World} {S' : Nat → Prop} {β' : Bet} {og' : Nat → Option Nat} (hlen : prow.length = ids.length) (dst : Option Tmp)
    (hA : After w S (fun b => b < w.heap.size ∧ ∀ i ∈ ids, og i ≠ some b) (openBet β ids) prow nrow v u w' S' β' og')
    (hfr : ∀ p ∈ newsOf (back site ids nrow.length) site 0 nrow, p.1 ∉ st.used ∧ p.1 < PID) {rows' : List (Nat × Row)}
    (hrows : ∀ id r, lookup rows' id = some r → (id, r) ∈ newsOf (back site ids nrow.length) site 0 nrow ∨ (id, r) ∈ modsOf (back site ids nrow.length) ids prow ∨ (id ∉ delsOf ids prow ∧ (∀ p ∈ modsOf (back site ids nrow.length) ids prow, p.1 ≠ id) ∧ lookup st.rows id = some r)) :
    ∃ S2 β2 og2, Rel w' S2 B β2 og2 ⟨putTm st.tm dst (v.ren (back site ids nrow.length)), rows', (newsOf (back site ids nrow.length) site 0 nrow).map (·.1) ++ st.used⟩ (a.put dst u) ∧ Out w0 S0 B w' S2 ∧ ∀ id x, β id = some x → β2 id = some x := by
  have hnew : ∀ j, j < nrow.length → newId site j ∉ st.used ∧ newId site j < PID := fun j hj => by
    have := newsOf_keys (back site ids nrow.length) site nrow 0 j hj
    rw [Nat.zero_add] at this
    obtain ⟨p, hp, he⟩ := List.mem_map.1 this
    rw [← he]
    exact hfr p hp
  have hisused : ∀ id x, β id = some x → isNew site nrow.length id = none := fun id x hx => by
    cases hi : isNew site nrow.length id with
    | none => rfl
    | some j =>
      obtain ⟨e, hj⟩ := isNew_inv hi
      exact absurd (by rw [← e]; exact hR.used id x hx) (hnew j hj).1
  have hBB : ∀ b, B b → b < w.heap.size ∧ ∀ i ∈ ids, og i ≠ some b := fun b hb => ⟨hR.Ble b hb, fun i hi hg => by
    obtain ⟨r, hr, _⟩ := himm i hi
    exact (hR.row i r hr).place.2 b hg hb⟩
  have hSB : ∀ b, S b → b < w.heap.size ∧ ∀ i ∈ ids, og i ≠ some b := fun b hb => ⟨hR.Slt b hb, fun i hi hg => by
    obtain ⟨r, hr, hm⟩ := himm i hi
    exact (hR.row i r hr).free hm b hg hb⟩
  have hw : ∀ b, S b → w'.heap[b]? = w.heap[b]? := fun b hb => hA.kept.block b (hSB b hb)
  have hβ : ∀ id x, β id = some x → (match isNew site nrow.length id with | some j => β' (RID + j) | none => β id) = some x := fun id x hx => by
    rw [hisused id x hx]; exact hx
  have hm : ∀ id x j, β' id = some x → back site ids nrow.length id = some j → (match isNew site nrow.length j with | some j => β' (RID + j) | none => β j) = some x := fun id x j hx hj => by
    unfold back at hj
    split at hj
    · cases hj
    · split at hj
      · rename_i h1 h2
        have hlt : id < RID := Nat.blt_eq ▸ h2
        obtain ⟨j', i, e1, e2, e3⟩ := openBet_inv (hA.bet id x hlt hx)
        have : id - PID = j' := by omega
        rw [this, e2] at hj
        cases hj
        exact hβ _ _ e3
      · rename_i h1 h2
        split at hj
        · rename_i h3
          cases hj
          have h3' : id - RID < nrow.length := Nat.blt_eq ▸ h3
          rw [isNew_at h3']
          have h2' : ¬ id < RID := fun h => h2 (by rw [Nat.blt_eq]; exact h)
          show β' (RID + (id - RID)) = some x
          rw [show RID + (id - RID) = id from by omega]
          exact hx
        · cases hj
  have hog1 : ∀ j, j < nrow.length → (match isNew site nrow.length (newId site j) with | some j => og' (RID + j) | none => (match idx ids (newId site j) with | some j => (match prow[j]? with | some (some _) => og' (PID + j) | _ => none) | none => og (newId site j))) = og' (RID + j) := fun j hj => by rw [isNew_at hj]
  have hidx : ∀ j i, ids[j]? = some i → idx ids i = some j := fun j i h => by
    have aux : ∀ (l : List Nat) (j i : Nat), l[j]? = some i → ∃ j', idx l i = some j' := by
      intro l
      induction l with
      | nil => intro j i h; simp at h
      | cons x l ih =>
        intro j i h
        by_cases e : i = x
        · exact ⟨0, by simp [idx, e]⟩
        · cases j with
          | zero => simp at h; exact absurd h.symm e
          | succ j =>
            obtain ⟨j', hj'⟩ := ih j i (by simpa using h)
            exact ⟨j' + 1, by simp [idx, e, hj']⟩
    obtain ⟨j', hj'⟩ := aux ids j i h
    rw [hj', hnd j j' i h (idx_some ids i j' hj')]
  have hopn : ∀ j i, ids[j]? = some i → isNew site nrow.length i = none := fun j i h => by
    obtain ⟨r, hr, _⟩ := himm i (List.mem_of_getElem? h)
    obtain ⟨x, hx⟩ := (hR.row i r hr).place.1
    exact hisused i x hx
  have hog2 : ∀ j i r, ids[j]? = some i → prow[j]? = some (some r) → (match isNew site nrow.length i with | some j => og' (RID + j) | none => (match idx ids i with | some j => (match prow[j]? with | some (some _) => og' (PID + j) | _ => none) | none => og i)) = og' (PID + j) := fun j i r h hp => by
    rw [hopn j i h, hidx j i h]
    simp only [hp]
  have hog3 : ∀ id, isNew site nrow.length id = none → id ∉ ids → (match isNew site nrow.length id with | some j => og' (RID + j) | none => (match idx ids id with | some j => (match prow[j]? with | some (some _) => og' (PID + j) | _ => none) | none => og id)) = og id := fun id h hn => by
    rw [h]
    cases hi : idx ids id with
    | none => rfl
    | some j => exact absurd (List.mem_of_getElem? (idx_some ids id j hi)) hn
  have hcl : ∀ id g, (match isNew site nrow.length id with | some j => og' (RID + j) | none => (match idx ids id with | some j => (match prow[j]? with | some (some _) => og' (PID + j) | _ => none) | none => og id)) = some g →
      (∃ j, j < nrow.length ∧ id = newId site j ∧ og' (RID + j) = some g) ∨ (∃ j r, ids[j]? = some id ∧ prow[j]? = some (some r) ∧ og' (PID + j) = some g) ∨ (id ∉ ids ∧ og id = some g) := fun id g h => by
    cases hi : isNew site nrow.length id with
    | some j =>
      rw [hi] at h
      obtain ⟨e, hj⟩ := isNew_inv hi
      exact .inl ⟨j, hj, e, h⟩
    | none =>
      rw [hi] at h
      cases hx : idx ids id with
      | some j =>
        rw [hx] at h
        have hj := idx_some ids id j hx
        simp only at h
        split at h
        · rename_i r hp; exact .inr (.inl ⟨j, r, hj, hp, h⟩)
        · cases h
      | none =>
        rw [hx] at h
        refine .inr (.inr ⟨fun hin => ?_, h⟩)
        obtain ⟨j, hj, he⟩ := List.getElem_of_mem hin
        have := hidx j id (by rw [List.getElem?_eq_getElem hj, he])
        rw [hx] at this
        cases this
  have hnB1 : ∀ j, j < nrow.length → ∀ g, og' (RID + j) = some g → ¬ (g < w.heap.size ∧ ∀ i ∈ ids, og i ≠ some g) := fun j hj g hg => (hA.nrow j _ (List.getElem?_eq_getElem hj)).place.2 g hg
  have hnB2 : ∀ j r, prow[j]? = some (some r) → ∀ g, og' (PID + j) = some g → ¬ (g < w.heap.size ∧ ∀ i ∈ ids, og i ≠ some g) := fun j r hj g hg => (hA.prow j r hj).place.2 g hg
  have hyB : ∀ id g, id ∉ ids → og id = some g → (g < w.heap.size ∧ ∀ i ∈ ids, og i ≠ some g) := fun id g hn hg => ⟨hR.lt id g hg, fun i hi hg' => hn (hR.inj id i g hg hg' ▸ hi)⟩
  have hPR : PID + 1000000 < RID := by decide
  refine ⟨S', fun id => match isNew site nrow.length id with | some j => β' (RID + j) | none => β id, fun id => match isNew site nrow.length id with | some j => og' (RID + j) | none => (match idx ids id with | some j => (match prow[j]? with | some (some _) => og' (PID + j) | _ => none) | none => og id), ⟨?_, by rw [Act.put_defers]; exact hR.df, fun id r hr => ?_, fun id id' g hg hg' => ?_, fun id g hg => ?_, fun id x hx => ?_, fun id x hx => ?_, hA.Slt, fun b hb => Nat.lt_of_lt_of_le (hR.Ble b hb) hA.kept.size, fun id x hp hx => ?_⟩, ?_⟩
  · exact tm_put (hR.tm.mono hA.sub hw hβ) dst (ren_rel hA.val hm)
  · rcases hrows id r hr with h | h | ⟨h1, h2, h3⟩
    · obtain ⟨j, r0, e1, e2, rfl⟩ := newsOf_inv _ _ _ _ _ _ h
      rw [Nat.zero_add] at e1
      subst e1
      have hj : j < nrow.length := (List.getElem?_eq_some_iff.1 e2).1
      rw [hog1 j hj]
      refine (hA.nrow j r0 e2).ren hm (fun x hx => ?_) (fun g hg hn hb => hn (hBB g hb))
      rw [isNew_at hj]
      exact hx
    · obtain ⟨j, r0, e1, e2, rfl⟩ := modsOf_inv _ _ _ _ _ h
      rw [hog2 j id r0 e1 e2]
      refine (hA.prow j r0 e2).ren hm (fun x hx => ?_) (fun g hg hn hb => hn (hBB g hb))
      have hjl : j < ids.length := (List.getElem?_eq_some_iff.1 e1).1
      obtain ⟨j', i, q1, q2, q3⟩ := openBet_inv (hA.bet _ x (by omega) hx)
      have : j = j' := by omega
      subst this
      rw [e1] at q2
      cases q2
      exact hβ _ _ q3
    · have hn : id ∉ ids := fun hin => by
        obtain ⟨j, hj, he⟩ := List.getElem_of_mem hin
        have hij : ids[j]? = some id := by rw [List.getElem?_eq_getElem hj, he]
        have hpj : j < prow.length := by rw [hlen]; exact hj
        cases hp : prow[j] with
        | none => exact h1 (delsOf_mem ids prow j id hij (by rw [List.getElem?_eq_getElem hpj, hp]))
        | some r' => exact h2 _ (modsOf_mem (back site ids nrow.length) ids prow j id r' hij (by rw [List.getElem?_eq_getElem hpj, hp])) rfl
      have h0 := hR.row id r h3
      obtain ⟨x, hx⟩ := h0.place.1
      rw [hog3 id (hisused id x hx) hn]
      refine h0.keep hβ hA.sub (fun g hg hs => ?_) hw (fun g hg => hA.kept.block g (hyB id g hn hg))
      exact (hA.sin g hs).elim (fun h => h) fun h => absurd (hyB id g hn hg) h
  · rcases hcl id g hg with ⟨j, hj, rfl, hgj⟩ | ⟨j, r, e1, e2, hgj⟩ | ⟨hn, hgj⟩ <;> rcases hcl id' g hg' with ⟨j', hj', rfl, hgj'⟩ | ⟨j', r', e1', e2', hgj'⟩ | ⟨hn', hgj'⟩
    · have := hA.inj _ _ g hgj hgj'
      rw [show j = j' from by omega]
    · have := hA.inj _ _ g hgj hgj'
      have hjl : j' < ids.length := (List.getElem?_eq_some_iff.1 e1').1
      omega
    · exact absurd (hyB _ g hn' hgj') (hnB1 j hj g hgj)
    · have := hA.inj _ _ g hgj hgj'
      have hjl : j < ids.length := (List.getElem?_eq_some_iff.1 e1).1
      omega
    · have := hA.inj _ _ g hgj hgj'
      have : j = j' := by omega
      subst this
      rw [e1] at e1'
      cases e1'
      rfl
    · exact absurd (hyB _ g hn' hgj') (hnB2 j r e2 g hgj)
    · exact absurd (hyB _ g hn hgj) (hnB1 j' hj' g hgj')
    · exact absurd (hyB _ g hn hgj) (hnB2 j' r' e2' g hgj')
    · exact hR.inj id id' g hgj hgj'
  · rcases hcl id g hg with ⟨j, hj, rfl, hgj⟩ | ⟨j, r, e1, e2, hgj⟩ | ⟨hn, hgj⟩
    · exact hA.lt _ g hgj
    · exact hA.lt _ g hgj
    · exact Nat.lt_of_lt_of_le (hR.lt id g hgj) hA.kept.size
  · split at hx
    · rename_i j hj
      obtain ⟨rfl, hjl⟩ := isNew_inv hj
      have := newsOf_keys (back site ids nrow.length) site nrow 0 j hjl
      rw [Nat.zero_add] at this
      exact List.mem_append_left _ this
    · exact List.mem_append_right _ (hR.used id x hx)
  · split at hx
    · exact hA.one _ x hx
    · exact hR.one id x hx
  · split at hx
    · rename_i j hj
      obtain ⟨rfl, hjl⟩ := isNew_inv hj
      have := (hnew j hjl).2
      omega
    · exact hR.pid id x hp hx
  · refine ⟨?_, hβ⟩
    exact ⟨⟨⟨hA.kept.os.trans hO.bel.os, hA.kept.tape.trans hO.bel.tape, hA.kept.output.trans hO.bel.output, Nat.le_trans hO.bel.size hA.kept.size, fun k hk => (hA.kept.block k (hBB k hk)).trans (hO.bel.block k hk)⟩, hO.bel.glb⟩,
      fun b hb => (hA.sin b hb).elim (hO.sin b) fun h => .inr fun hB => h (hBB b hB), fun b hb => hA.sub b (hO.sub b hb)⟩
theorem lookup_immL (fz : List Nat) (rows : List (Nat × Row)) (id : Nat) : lookup (match fz with | [] => rows | ids => setImm ids rows) id = lookup (setImm fz rows) id := by
  cases fz with
  | nil => rw [setImm_nil]
  | cons i is => rfl
theorem reachF_pre {rows : List (Nat × Row)} {f : List AV → List Nat → List Nat} (hf : ∀ cs acc, acc <+: f cs acc) : ∀ (is acc : List Nat), acc <+: reachF rows f is acc
  | [], acc => by simp [reachF]
  | i :: is, acc => by
    simp only [reachF]
    split
    · exact reachF_pre hf is acc
    · split
      · exact ((List.prefix_append acc [i]).trans (hf _ _)).trans (reachF_pre hf is _)
      · exact (List.prefix_append acc [i]).trans (reachF_pre hf is _)
      · exact ((List.prefix_append acc [i]).trans (hf _ _)).trans (reachF_pre hf is _)
      · exact reachF_pre hf is acc
theorem reach_pre {rows : List (Nat × Row)} : ∀ (n : Nat) (avs : List AV) (acc : List Nat), acc <+: reach rows n avs acc
  | 0, avs, acc => by simp [reach]
  | n + 1, avs, acc => by
    simp only [reach]
    exact reachF_pre (fun cs acc => reach_pre n cs acc) _ _
theorem evX_open (hR : Rel w S B β og st a) (hO : Out w0 S0 B w S) {rowsV : List (Nat × Row)} (hsub : ∀ id x, lookup rowsV id = some x → lookup st.rows id = some x) (hfr : ∀ e, y e = some r → freshB site e st.used = true) (dst : Option Tmp) {avs : List AV} {args : List Value} {F : SummX}
    (hargs : VRels w S β avs args) (h : evX site F avs rowsV y = some r) :
    ∃ (S1 B1 : Nat → Prop) (β1 : Bet) (og1 : Nat → Option Nat) (avs1 : List AV) (rows1 : List Row) (k1 : AV → List (Option Row) → List Row → Option ρ),
      Heap w S1 B1 β1 og1 (zipIds PID rows1) ∧ ((∀ b, S1 b → B1 b) ∧ Glb B1 w) ∧ (∀ id x, β1 id = some x → PID ≤ id ∧ id < PID + rows1.length) ∧ VRels w S1 β1 avs1 args ∧ F ρ avs1 rows1 k1 = some r ∧
      (∀ id rest key tm, avs = .own id :: rest → lookup rowsV id = some (.box false (.tup [.int .i64 key] :: tm)) → ∃ rest1 tm1 rows2, avs1 = .own PID :: rest1 ∧ rows1 = .box false (.tup [.int .i64 key] :: tm1) :: rows2 ∧ β1 PID = β id ∧ og1 PID = og id) ∧
      ∀ u v prow nrow w' S' β' og', k1 v prow nrow = some r → After w S1 B1 β1 prow nrow v u w' S' β' og' → ∃ e S2 β2 og2, y e = some r ∧ Rel w' S2 B β2 og2 (apply site dst e st) (a.put dst u) ∧ Out w0 S0 B w' S2 ∧ ∀ id x, β id = some x → β2 id = some x := by
  have hrow : ∀ id x, lookup rowsV id = some x → RowRel w S B β id (og id) x := fun id x hx => hR.row id x (hsub _ _ hx)
  unfold evX at h
  split at h
  · cases h
  · rename_i p hp
    obtain ⟨avs1, fz1⟩ := p
    split at h
    · cases h
    · rename_i q hq
      obtain ⟨rs, fz2⟩ := q
      split at h
      · rename_i hc
        simp only [Bool.and_eq_true] at hc
        obtain ⟨⟨hnd, hsm⟩, hdis⟩ := hc
        generalize hids : reach rowsV depth avs1 [] = ids at h hq hnd hsm hdis
        have hnd' := nodupB_spec ids hnd
        have hsm' : ids.length ≤ 1000000 := Nat.le_of_ble_eq_true hsm
        have hdis' : ∀ i ∈ fz1 ++ fz2, i ∉ ids := fun i hi => by
          have := (List.all_eq_true.1 hdis) i hi
          simpa using this
        generalize hfz : fz1 ++ fz2 = fz at h hdis'
        have hin : ∀ id ∈ fz, ∃ r, lookup st.rows id = some r := fun id hid => by
          rw [← hfz] at hid
          rcases List.mem_append.1 hid with hid | hid
          · obtain ⟨r, hr⟩ := purL_in (rows := rowsV) (opn1_in depth) _ _ hp id hid; exact ⟨r, hsub _ _ hr⟩
          · obtain ⟨r, hr⟩ := rowsAt_in _ _ hq id hid; exact ⟨r, hsub _ _ hr⟩
        have hFr := hR.freeze fz
        have hOF := hO.freeze hR fz hin
        obtain ⟨hrl, hrs⟩ := rowsAt_sound hrow hR.inj ids rs fz2 fz hq (fun i hi => by rw [← hfz]; simp [hi]) hdis'
        have hpa := (purL_soundX (w := w) (S := S) (β := β) (og := og) (f := opn1 rowsV depth) (opn1_sound hrow depth) _ _ _ hp hargs).keepS (S' := With S og fz) fun b => With.sub (fun i hi => by rw [← hfz]; simp [hi])
        have hmP : ∀ id x j, β id = some x → toP ids id = some j → openBet β ids j = some x := fun id x j hx hj => by
          unfold toP at hj
          cases hi : idx ids id with
          | none => simp [hi] at hj
          | some j' =>
            simp [hi] at hj
            subst hj
            rw [openBet_at β (idx_some ids id j' hi)]
            exact hx
        have himm : ∀ i ∈ ids, ∃ r, lookup (setImm fz st.rows) i = some r ∧ r.imm = false := fun i hi => by
          obtain ⟨j, hj, he⟩ := List.getElem_of_mem hi
          obtain ⟨r1, r0, _, hl0, hm0, _⟩ := hrs j i (by rw [List.getElem?_eq_getElem hj, he])
          refine ⟨r0, ?_, hm0⟩
          have hni : fz.contains i = false := by
            have : i ∉ fz := fun h => hdis' i h hi
            simpa using this
          rw [lookup_setImm, hsub _ _ hl0]
          simp only [Option.map_some, hni]
          rfl
        have hnS : ∀ i ∈ ids, ∀ g, og i = some g → ¬ With S og fz g := fun i hi g hg => by
          obtain ⟨r, hr, hm⟩ := himm i hi
          exact (hFr.row i r hr).free hm g hg
        have hH : Heap w (With S og fz) (fun b => b < w.heap.size ∧ ∀ i ∈ ids, og i ≠ some b) (openBet β ids) (openBet og ids) (zipIds PID (rs.map (Row.ren (toP ids)))) := by
          refine ⟨fun id x hx => ?_, fun id id' g hg hg' => ?_, fun id g hg => ?_, fun id x hx => ?_, hFr.Slt, fun b hb => hb.1⟩
          · obtain ⟨hle, hx⟩ := lookup_zipIds _ _ _ _ hx
            obtain ⟨jj, rfl⟩ : ∃ jj, id = PID + jj := ⟨id - PID, by omega⟩
            rw [Nat.add_sub_cancel_left, List.getElem?_map] at hx
            cases hr : rs[jj]? with
            | none => simp [hr] at hx
            | some r1 =>
              simp [hr] at hx
              subst hx
              have hjl : jj < ids.length := by rw [← hrl]; exact (List.getElem?_eq_some_iff.1 hr).1
              have hij : ids[jj]? = some ids[jj] := List.getElem?_eq_getElem hjl
              obtain ⟨r2, r0, hr2, hl0, hm0, hrel, _⟩ := hrs _ _ hij
              rw [hr] at hr2
              cases hr2
              rw [openBet_at og hij]
              refine hrel.ren hmP (fun x hx => ?_) (fun g hg _ hb => hb.2 _ (List.mem_of_getElem? hij) hg)
              rw [openBet_at β hij]
              exact hx
          · obtain ⟨j, i, rfl, e1, e2⟩ := openBet_inv hg
            obtain ⟨j', i', rfl, e1', e2'⟩ := openBet_inv hg'
            have := hR.inj i i' g e2 e2'
            subst this
            rw [hnd' j j' i e1 e1']
          · obtain ⟨j, i, rfl, e1, e2⟩ := openBet_inv hg
            exact hR.lt i g e2
          · obtain ⟨j, i, rfl, e1, e2⟩ := openBet_inv hx
            exact hR.one i x e2
        refine ⟨With S og fz, fun b => b < w.heap.size ∧ ∀ i ∈ ids, og i ≠ some b, openBet β ids, openBet og ids, _, _, _, hH,
          ⟨fun b hb => ⟨hFr.Slt b hb, fun i hi hg => hnS i hi b hg hb⟩, hO.bel.here.mono fun b hb => ⟨hR.Ble b hb, fun i hi hg => by
            obtain ⟨r, hr, hm⟩ := himm i hi
            exact (hFr.row i r hr).place.2 b hg hb⟩⟩,
          (fun id x hx => by
            obtain ⟨j, i, rfl, e1, e2⟩ := openBet_inv hx
            have := (List.getElem?_eq_some_iff.1 e1).1
            rw [List.length_map, hrl]
            omega), rens_rel hmP hpa, h, fun id rest key tm e1 e2 => ?_, fun u v prow nrow w' S' β' og' hk hA => ?_⟩
        · subst e1
          have e3 : opn1 rowsV depth (.own id) = some (.own id, []) := by
            unfold depth
            simp only [opn1, e2]
          simp only [purL, e3] at hp
          cases hr : purL (opn1 rowsV depth) rest with
          | none => rw [hr] at hp; cases hp
          | some q1 =>
            rw [hr] at hp
            cases hp
            have hpre : [id] <+: ids := by
              rw [← hids]
              show [id] <+: reachF rowsV (reach rowsV 11) (id :: AV.refss q1.1) []
              simp only [reachF, List.contains_nil, Bool.false_eq_true, if_false, e2]
              exact (reach_pre 11 _ _).trans (reachF_pre (fun cs acc => reach_pre 11 cs acc) _ _)
            obtain ⟨is, his⟩ := hpre
            have his : ids = id :: is := his.symm
            have hj0 : ids[0]? = some id := by rw [his]; rfl
            have e4 : toP ids id = some PID := by unfold toP; rw [his]; simp [idx]
            rw [his] at hq
            simp only [rowsAt, e2] at hq
            cases hr2 : rowsAt rowsV is with
            | none => rw [hr2] at hq; cases hq
            | some q2 =>
              rw [hr2] at hq
              have e5 : opn1 rowsV depth (.tup [.int .i64 key]) = some (.tup [.int .i64 key], []) := by
                unfold depth
                simp only [opn1, purL]
                rfl
              simp only [purL, e5] at hq
              cases hr3 : purL (opn1 rowsV depth) tm with
              | none => rw [hr3] at hq; cases hq
              | some q3 =>
                rw [hr3] at hq
                cases hq
                refine ⟨AV.rens (toP ids) q1.1, AV.rens (toP ids) q3.1, q2.1.map (Row.ren (toP ids)), ?_, rfl, openBet_at β hj0, openBet_at og hj0⟩
                show (AV.own id).ren (toP ids) :: _ = _
                simp only [AV.ren, e4]
        · split at hk
          · rename_i hlen
            have hlen' : prow.length = ids.length := by simpa using hlen
            have hfresh := hfr _ hk
            simp only [freshB, Bool.true_and, List.all_eq_true, Bool.and_eq_true, Bool.not_eq_true'] at hfresh
            have hall : ∃ S2 β2 og2, Rel w' S2 B β2 og2 (apply site dst { v := v.ren (back site ids nrow.length), imm := fz, dels := delsOf ids prow, mods := modsOf (back site ids nrow.length) ids prow, news := newsOf (back site ids nrow.length) site 0 nrow } st) (a.put dst u) ∧ Out w0 S0 B w' S2 ∧ ∀ id x, β id = some x → β2 id = some x := ?_
            · obtain ⟨S2, β2, og2, hx1, hx2, hx3⟩ := hall
              exact ⟨_, S2, β2, og2, hk, hx1, hx2, hx3⟩
            refine after_rel' (site := site) hFr hOF hnd' himm hsm' hlen' dst hA (fun p hp => ?_) (fun id r hr => ?_)
            · obtain ⟨h1, h2⟩ := hfresh p hp
              exact ⟨by simpa using h1, Nat.blt_eq ▸ h2⟩
            · simp only [applyRows] at hr
              rcases lookup_foldl_set _ _ _ _ hr with h | ⟨_, h⟩
              · exact .inl h
              · rcases lookup_foldl_set _ _ _ _ h with h | ⟨h1, h⟩
                · exact .inr (.inl h)
                · obtain ⟨h2, h3⟩ := lookup_foldl_del _ _ _ _ h
                  exact .inr (.inr ⟨h2, h1, (lookup_immL fz st.rows id).symm.trans h3⟩)
          · cases hk
      · cases h
theorem op_callX (hR : Rel w S B β og st a) (hO : Out w0 S0 B w S) {rowsV : List (Nat × Row)} (hsub : ∀ id x, lookup rowsV id = some x → lookup st.rows id = some x) (hfr : ∀ e, y e = some r → freshB site e st.used = true) {f : Operand} {args : Array Operand} {ts : Array TypeId} {g : Nat} {caps : List AV} {F : SummX}
    (ho : o.op = .call { callee := .value f, args := args, argTypes := ts }) (hf : val st.tm f = .fn g caps) (hF : XOK P g F) (hen : entersB P g = true)
    (h : evX site F (valsT P st.tm ts.toList args.toList ++ caps) rowsV y = some r) (hK : Good w0 S0 B site o st y r K) : o.wpR R P a w K Q := by
  have hfv := val_rel hR.tm f
  rw [hf] at hfv
  generalize hfe : a.eval f = fv at hfv
  cases hfv with
  | fn _ _ _ cvs hcl hch =>
  have hargs := (valsT_rel hR.tm P ts.toList args.toList).append (VRels.mono (w' := w) (S' := S) (β' := β) ⟨hcl, hch⟩ (fun _ h => h) (fun _ _ => rfl) (fun _ _ h => h))
  obtain ⟨S1, B1, β1, og1, avs1, rows1, k1, hH, hSB, hdom, hv1, hF1, _, hcont⟩ := evX_open hR hO hsub hfr o.dst hargs h
  have hC := hF ρ w S1 B1 β1 og1 avs1 rows1 _ k1 r hH hSB hdom hv1 hF1
  have hmap : (args.map a.eval) ++ cvs.toArray = (args.toList.map a.eval ++ cvs).toArray := by apply Array.ext'; simp
  have hrun : ∀ s, (callFunc g (args.toList.map a.eval ++ cvs).toArray).run P w = s → (execOp a.eval o).run P w = s := fun s hcf => by
    simp only [execOp, ho, resolve, hfe, Deferred.ofValue]
    simp only [pure_bind, invoke, Array.empty_append, hmap]
    exact hcf
  refine hC.wp hen hrun fun e w' hpost => ?_
  obtain ⟨u, v, prow, nrow, S', β', og', rfl, hk, hA⟩ := hpost
  obtain ⟨e, S2, β2, og2, hy, hR2, hO2, _⟩ := hcont u v prow nrow w' S' β' og' hk hA
  exact ⟨u, rfl, hK _ _ _ hy ⟨S2, β2, og2, hR2, hO2⟩⟩
def YOK (P : Program) (key : Int) (F : SummX) : Prop :=
  ∀ (ρ : Type) (w : World) (S B : Nat → Prop) (β : Bet) (og : Nat → Option Nat) (avs tm : List AV) (rows : List Row) (args : List Value) (k : AV → List (Option Row) → List Row → Option ρ) (r : ρ) (l : Nat) (r0 : Go.Loop) (us : List Value),
    Heap w S B β og (zipIds PID (.box false (.tup [.int .i64 key] :: tm) :: rows)) → (∀ b, S b → B b) ∧ Glb B w → (∀ id x, β id = some x → PID ≤ id ∧ id < PID + (rows.length + 1)) → VRels w S β avs args →
    β PID = some (.func (.yield l) #[] #[], 1) → og PID = some l → w.heap[l]? = some (.loop r0) → r0.state = .ready → r0.pending = none → (r0.params, r0.assign, r0.body) = loopCode key → r0.tmps.toList = us → VRels w S β tm us →
    F ρ (.own PID :: avs) (.box false (.tup [.int .i64 key] :: tm) :: rows) k = some r →
    RoundIn Fence.wide 0 P l r0.fn ((r0.params.zip args.toArray).foldl (fun t (p, v) => t.setIfInBounds p v) r0.tmps) r0.assign r0.body w fun e w' => ∃ u v prow nrow S' β' og', e = .returned u ∧ k v prow nrow = some r ∧ After w S B β prow nrow v u w' S' β' og'
theorem op_yield (hR : Rel w S B β og st a) (hO : Out w0 S0 B w S) {rowsV : List (Nat × Row)} (hsub : ∀ id x, lookup rowsV id = some x → lookup st.rows id = some x) (hfr : ∀ e, y e = some r → freshB site e st.used = true) {f : Operand} {args : Array Operand} {ts : Array TypeId} {id : Nat} {key : Int} {tm : List AV} {F : SummX}
    (ho : o.op = .call { callee := .value f, args := args, argTypes := ts }) (hf : val st.tm f = .own id) (hl : lookup rowsV id = some (.box false (.tup [.int .i64 key] :: tm))) (hn : args.size = (loopCode key).1.size) (hF : YOK P key F)
    (h : evX site F (.own id :: valsT P st.tm ts.toList args.toList) rowsV y = some r) (hK : Good w0 S0 B site o st y r K) : o.wpR R P a w K Q := by
  have hfv := val_rel hR.tm f
  rw [hf] at hfv
  have hargs := VRels.cons hfv (valsT_rel hR.tm P ts.toList args.toList)
  obtain ⟨S1, B1, β1, og1, avs1, rows1, k1, hH, hSB, hdom, hv1, hF1, hown, hcont⟩ := evX_open hR hO hsub hfr o.dst hargs h
  obtain ⟨rest1, tm1, rows2, rfl, rfl, hβ, hog⟩ := hown id _ key tm rfl hl
  generalize hfe : a.eval f = fv at hfv hv1
  cases hfv with
  | own _ _ _ wd hbt =>
  have h0 := hH.row PID (.box false (.tup [.int .i64 key] :: tm1)) (by simp [zipIds, lookup])
  obtain ⟨g, vs, v0, hg, hb0, hH0, hvs, _⟩ := h0
  obtain ⟨v, vs', e0, hx, hxs⟩ := hvs.inv
  have hx' : ∃ xs : List Value, v = .tuple xs.toArray := by cases hx with | tup _ _ xs _ _ => exact ⟨xs, rfl⟩
  obtain ⟨xs, rfl⟩ := hx'
  rcases hH0 with ⟨_, _, h1⟩ | ⟨r0, key', us, d, hh, hs, hpd, hq, e1, e2, e3⟩ | ⟨s, pos, _, e1, _⟩
  rotate_left 2
  · exfalso
    rw [e1] at e0
    simp only [List.cons.injEq, Value.tuple.injEq] at e0
    have hlen := congrArg Array.size e0.1
    cases hx with
    | tup _ _ xs hl _ =>
      simp at hlen hl
      omega
  · have := h1 (.tuple xs.toArray) (by rw [e0]; simp)
    cases this
  · have hkk : d = false ∧ key' = key ∧ us = vs' := by
      rw [e1] at e0
      simp only [List.cons.injEq] at e0
      cases hx with
      | tup _ _ xs hl hc =>
        have e4 : xs = recV key' d := by
          have := e0.1
          simp only [Value.tuple.injEq] at this
          rw [← Array.toList_inj] at this
          simpa using this.symm
        cases d with
        | true => rw [e4] at hl; simp [recV] at hl
        | false =>
          have e5 : xs = [.int .i64 key'] := e4
          subst e5
          refine ⟨rfl, ?_, e0.2⟩
          have := hc 0 _ _ rfl rfl
          cases this
          rfl
    obtain ⟨rfl, rfl, rfl⟩ := hkk
    have hfv2 : fv = .func (.yield g) #[] #[] ∧ wd = 1 := by
      rw [hβ, hbt] at hb0
      simp only [Option.some.injEq, Prod.mk.injEq] at hb0
      exact ⟨hb0.1.trans e3, hb0.2⟩
    obtain ⟨rfl, rfl⟩ := hfv2
    obtain ⟨_, _, e6, _, hv2⟩ := hv1.inv
    simp only [List.cons.injEq] at e6
    obtain ⟨_, rfl⟩ := e6
    have hround := hF ρ w S1 B1 β1 og1 rest1 tm1 rows2 _ k1 r g r0 us hH hSB (by simpa using hdom) hv2 (by rw [hβ, hbt]) hg hh hs hpd hq e2 hxs hF1
    refine ⟨fun _ _ => trivial, ?_⟩
    have hsz : (args.map a.eval).size = r0.params.size := by
      rw [Array.size_map, hn]
      have : (r0.params, r0.assign, r0.body).1 = (loopCode key').1 := by rw [hq]
      exact (congrArg Array.size this).symm
    have hrun : (execOp a.eval o).run P w = .ok (.round g r0.fn ((r0.params.zip (args.toList.map a.eval).toArray).foldl (fun t (p, v) => t.setIfInBounds p v) r0.tmps) r0.assign r0.body) w := by
      simp only [execOp, ho, resolve, hfe, Deferred.ofValue]
      simp only [pure_bind, invoke, Array.empty_append]
      rw [run_yield hh hsz, show args.map a.eval = (args.toList.map a.eval).toArray from by apply Array.ext'; simp]
    rw [semAt_of hrun (fun _ _ h => by cases h) (fun _ _ h => by cases h), Oper.uponIn_round]
    refine ⟨fun h => (by cases h), RoundIn.mono (show RoundIn (fen R) 0 P g r0.fn _ r0.assign r0.body w _ from hround) fun e w' hpost => ?_⟩
    obtain ⟨u, v, prow, nrow, S', β', og', rfl, hk, hA⟩ := hpost
    obtain ⟨e, S2, β2, og2, hy, hR2, hO2, _⟩ := hcont u v prow nrow w' S' β' og' hk hA
    exact hK _ _ _ hy ⟨S2, β2, og2, hR2, hO2⟩
end ops
end Go.Ev


namespace Go.Ev
open Go.RowKit
section ops
variable {R : Option Nat} {ρ : Type} {P : Program} {w0 w : World} {S0 S : Nat → Prop} {B : Ctx} {β : Bet} {og : Nat → Option Nat} {st : St} {a : Act} {o : Oper} {site : Nat} {y : Eff → Option ρ} {r : ρ}
  {K : Act → World → Prop} {Q : Exit → Act → World → Prop}
theorem runeT_spec {e : TypeId} (h : runeT P e = true) : P.underlying e = some (.int .i32) := by
  unfold runeT at h
  split at h
  · assumption
  · cases h
theorem runesFrom_ints (s : ByteArray) : ∀ (n i : Nat) (acc : Array Value), (∀ v ∈ acc.toList, ∃ m, v = .int .i32 m) → ∀ v ∈ (Conv.runesFrom s n i acc).toList, ∃ m, v = .int .i32 m
  | 0, i, acc, h => h
  | n + 1, i, acc, h => by
    unfold Conv.runesFrom
    split
    · refine runesFrom_ints s n _ _ fun v hv => ?_
      rw [Array.toList_push] at hv
      rcases List.mem_append.1 hv with hv | hv
      · exact h v hv
      · simp at hv; exact ⟨_, hv⟩
    · exact h
theorem runes_ints (s : List UInt8) : (Conv.runesFrom ⟨s.toArray⟩ s.length 0 #[]).toList = (runesI s).map (Value.int .i32) := by
  unfold runesI
  rw [List.map_map]
  conv => lhs; rw [← List.map_id (Conv.runesFrom ⟨s.toArray⟩ s.length 0 #[]).toList]
  refine List.map_congr_left fun v hv => ?_
  obtain ⟨m, rfl⟩ := runesFrom_ints ⟨s.toArray⟩ s.length 0 #[] (fun v hv => by simp at hv) v hv
  rfl
theorem runesI_len (s : List UInt8) : (runesI s).length ≤ s.length := by
  have h1 := size_runesFrom ⟨s.toArray⟩ s.length 0 #[]
  have h2 := congrArg List.length (runes_ints s)
  rw [List.length_map, Array.length_toList] at h2
  simp at h1
  omega
theorem op_runes (hR : Rel w S B β og st a) (hO : Out w0 S0 B w S) (hf : Fresh site st.used) {src dst e : TypeId} {x : Operand} {s : List UInt8} (ho : o.op = .convert src dst x) (hs : P.underlying src = some .string) (hd : P.underlying dst = some (.slice e)) (hx : valT P st.tm src x = .str s) (hb : runeT P e = true) (hl : s.length ≤ 1000000)
    (hy : y { v := .own site, new := some (.arr false (.int .i32) e (runesAV s) none) } = some r) (hK : Good w0 S0 B site o st y r K) : o.wpR R P a w K Q := by
  have hv := valT_rel hR.tm P src x
  rw [hx] at hv
  have he := hv.str_inv
  have hub := runeT_spec hb
  have hlen := runesI_len s
  have hsz : (ByteArray.mk s.toArray).size = s.length := by simp [ByteArray.size]
  have hrl : (Conv.runesFrom ⟨s.toArray⟩ s.length 0 #[]).size = (runesI s).length := by
    have h2 := congrArg List.length (runes_ints s)
    rw [List.length_map, Array.length_toList] at h2
    exact h2
  have hrun := run_runes_of_string (P := P) w src dst e ⟨s.toArray⟩ hs hd hub (by rw [hsz, hrl]; omega)
  rw [hsz, hrl] at hrun
  obtain ⟨cap, hcap⟩ : ∃ cap, cap = grownCap w (runesI s).length 0 e := ⟨_, rfl⟩
  rw [← hcap] at hrun
  have hge : (runesI s).length ≤ cap := by rw [hcap]; exact grownCap_ge w (runesI s).length 0 e
  have hlm : cap ≤ maxLen := by rw [hcap]; exact grownCap_le_maxLen w (runesI s).length 0 e (by unfold maxLen; omega)
  have hcells : Conv.runesFrom ⟨s.toArray⟩ s.length 0 #[] ++ Array.replicate (cap - (runesI s).length) (Value.int .i32 0) = (((runesI s) ++ List.replicate (cap - (runesI s).length) 0).map (Value.int .i32)).toArray := by
    apply Array.ext'
    simp [runes_ints]
  rw [hcells] at hrun
  obtain ⟨w', hw'⟩ : ∃ w', w' = w.drew.alloc (.cells (((runesI s) ++ List.replicate (cap - (runesI s).length) 0).map (Value.int .i32)).toArray e) := ⟨_, rfl⟩
  rw [← hw'] at hrun
  have hexec : (execOp a.eval o).run P w = .ok (.value (.slice (some ⟨w.heap.size, 0, none⟩) (runesI s).length cap)) w' := by
    simp only [execOp, ho, he, Sem.run_bind, Sem.run_pure, Result.andThen_ok, hrun]
  have hbl : Below w.heap.size w w' := by
    rw [hw']
    exact ((Below.refl w.heap.size w).drew).alloc (by simp [World.drew, -World.drew_eq]) _
  have hsize : w.heap.size < w'.heap.size := by rw [hw']; simp
  have hnew : w'.heap[w.heap.size]? = some (.cells (((runesI s) ++ List.replicate (cap - (runesI s).length) 0).map (Value.int .i32)).toArray e) := by
    have := heap_alloc_new w.drew (.cells (((runesI s) ++ List.replicate (cap - (runesI s).length) 0).map (Value.int .i32)).toArray e)
    rw [hw']
    simpa using this
  have hN := hR.new site hf o.dst hbl (S' := S) (fun _ h => h) (fun _ _ h => h) (fun b hs => Nat.lt_of_lt_of_le (hR.Slt b hs) hbl.size) (x := .slice (some ⟨w.heap.size, 0, none⟩) (runesI s).length cap) (wd := (Sh.int .i32).width) (o := some w.heap.size) rfl (fun g hg => by cases hg; exact ⟨Nat.le_refl _, hsize⟩)
    (r := .arr false (.int .i32) e (runesAV s) none) (v := .own site) (u := .slice (some ⟨w.heap.size, 0, none⟩) (runesI s).length cap) ?_ (.own _ site _ _ (upd_same _ _ _))
  · exact wp_value hexec (hK _ _ _ hy ⟨S, _, _, hN, hO.grow hR.Ble hbl⟩)
  · have hes : runesAV s ++ (List.replicate (cap - (runesI s).length) (0 : Int)).map (AV.int .i32) = ((runesI s) ++ List.replicate (cap - (runesI s).length) 0).map (AV.int .i32) := by
      unfold runesAV; rw [List.map_append]
    have hbl2 : (runesAV s).length = (runesI s).length := by unfold runesAV; simp
    refine ⟨by decide, _, (List.replicate (cap - (runesI s).length) (0 : Int)).map (AV.int .i32), ((runesI s) ++ List.replicate (cap - (runesI s).length) 0).map (Value.int .i32), ?_, (fun c h => by cases h), upd_same _ _ _, ?_, ?_, .inr ⟨w.heap.size, rfl, ?_, fun h => Nat.lt_irrefl _ (hR.Ble _ h), ?_, ?_, fun _ hs => absurd (hR.Slt _ hs) (Nat.lt_irrefl _), (fun h => by cases h)⟩⟩
    · rw [hes]
      intro v hv
      obtain ⟨n, _, rfl⟩ := List.mem_map.1 hv
      rfl
    · intro u hu
      obtain ⟨n, _, rfl⟩ := List.mem_map.1 hu
      rfl
    · rw [hes, flat_ints]
      exact ints_rel _ _ _ _ _
    · rw [hbl2, List.length_map, List.length_replicate, Nat.add_sub_cancel' hge]
    · exact ⟨_, .inl rfl, hnew⟩
    · rw [hbl2, List.length_map, List.length_replicate, Nat.add_sub_cancel' hge]; exact hlm
theorem op_runeStr (hR : Rel w S B β og st a) (hO : Out w0 S0 B w S) {rowsV : List (Nat × Row)} (hsub : ∀ id x, lookup rowsV id = some x → lookup st.rows id = some x) {src dst e : TypeId} {x : Operand} {s : Sh} {es : List AV} (ho : o.op = .convert src dst x) (hs : P.underlying src = some (.slice e)) (hd : P.underlying dst = some .string) (hx : elemsOf rowsV (valT P st.tm src x) = some (s, es)) (hb : runeT P e = true) (hsh : Sh.beq s (.int .i32) = true)
    (hy : y { v := .str (runeStr es) } = some r) (hK : Good w0 S0 B site o st y r K) : o.wpR R P a w K Q := by
  have hv := valT_rel hR.tm P src x
  obtain ⟨A, c, ad, xs, he, hse, hA, hvs, h1, hxc, hlm⟩ := elems_sound hR hsub hx hv
  have hub := runeT_spec hb
  obtain rfl := Sh.beq_eq _ _ hsh
  obtain ⟨ns, hns⟩ : ∃ ns : List Int, es = ns.map (AV.int .i32) := by
    refine ⟨es.map AV.toInt, ?_⟩
    rw [List.map_map]
    symm
    conv => rhs; rw [← List.map_id es]
    refine List.map_congr_left fun v hv => ?_
    have := hse v hv
    cases v <;> simp [hasSh, has1] at this
    subst this
    rfl
  subst hns
  rw [flat_ints] at hvs
  have hxs : xs = ns.map (Value.int .i32) := by
    refine List.ext_getElem? fun j => ?_
    rw [List.getElem?_map]
    cases hj : ns[j]? with
    | none =>
      have : xs.length = ns.length := by rw [hvs.1, List.length_map]
      rw [List.getElem?_eq_none (by rw [this]; exact List.getElem?_eq_none_iff.1 hj)]
      rfl
    | some n =>
      obtain ⟨u, hu, hr⟩ := hvs.at_ (j := j) (c := .int .i32 n) (by rw [List.getElem?_map, hj]; rfl)
      rw [hu, hr.int_inv]
      rfl
  have hstr : (⟨(runeStr (ns.map (AV.int .i32))).toArray⟩ : ByteArray) = runesBytes ns := by
    unfold runeStr runesBytes
    rw [List.map_map]
    have : (AV.toInt ∘ AV.int .i32) = id := rfl
    rw [this, List.map_id]
  have hrun : (Conv.runesToString (.slice A (ns.map (AV.int .i32)).length c)).run P w = .ok (.string ⟨(runeStr (ns.map (AV.int .i32))).toArray⟩) w := by
    rw [hstr]
    cases ns with
    | nil =>
      cases A with
      | none => simp [Conv.runesToString, Sem.run_pure, runesBytes]
      | some b =>
        have := run_runesToString (P := P) w b 0 c [] (by simpa using run_loadCells_list (P := P) w b [] (fun j v h => by simp at h))
        exact this
    | cons n ns =>
      rw [hA (by simp)]
      have hl := run_loadCells_list (P := P) w ad xs hxc
      rw [hxs] at hl
      have := run_runesToString (P := P) w ad (n :: ns).length c (n :: ns) (by simpa using hl)
      rw [List.length_map, this]
  have hexec : (execOp a.eval o).run P w = .ok (.value (.string ⟨(runeStr (ns.map (AV.int .i32))).toArray⟩)) w := by
    have hc : (convert src dst (a.eval x)).run P w = .ok (.string ⟨(runeStr (ns.map (AV.int .i32))).toArray⟩) w := by
      rw [he]
      unfold convert
      simp only [Sem.run_bind, run_underlying hs, run_underlying hd, Result.andThen_ok]
      cases A <;> simp only [run_underlying hub, Result.andThen_ok, hrun]
    simp only [execOp, ho, Sem.run_bind, Sem.run_pure, Result.andThen_ok, hc]
  exact wp_value hexec (hK _ _ _ hy ⟨S, β, og, hR.put o.dst (.str _ _), hO⟩)
end ops
end Go.Ev


namespace Go.Ev
open Go.RowKit
structure GOK (P : Program) (Γ : Env) : Prop where
  pure : ∀ g F, find Γ g = some F → SumOK P g F
  snat : ∀ g F, find Γ g = some F → SNat F
  opens : ∀ g F, findX Γ g = some F → XOK P g F
  nat : ∀ g F, findX Γ g = some F → XNat F
  yld : ∀ key np F, Γ.yld = some (key, np, F) → np = (loopCode key).1.size ∧ YOK P key F ∧ XNat F
theorem xOf_find {Γ : Env} {f : Operand} {g : Nat} {F : SummX} (h : xOf Γ f g = some F) : findX Γ g = some F := by
  unfold xOf at h
  split at h
  · exact h
  · split at h
    · exact h
    · cases h
section ops
variable {R : Option Nat} {ρ : Type} {P : Program} {w0 w : World} {S0 S : Nat → Prop} {B : Ctx} {β : Bet} {og : Nat → Option Nat} {st : St} {a : Act} {o : Oper} {site : Nat} {y : Eff → Option ρ} {r : ρ}
  {K : Act → World → Prop} {Q : Exit → Act → World → Prop} {Γ : Env} {rowsV : List (Nat × Row)}
theorem blt_false {m n : Nat} (h : Nat.blt m n = false) : n ≤ m := by
  rcases Nat.lt_or_ge m n with h' | h'
  · rw [← Nat.blt_eq] at h'
    rw [h] at h'
    cases h'
  · exact h'
theorem evBuiltin_sound (hR : Rel w S B β og st a) (hO : Out w0 S0 B w S) (hsub : ∀ id x, lookup rowsV id = some x → lookup st.rows id = some x) (hfr : ∀ e, y e = some r → freshB site e st.used = true) {b : Builtin} {args : Array Operand} {ts : Array TypeId}
    (ho : o.op = .call { callee := .builtin b, args := args, argTypes := ts }) (h : evBuiltin P site b ts.toList (valsT P st.tm ts.toList args.toList) rowsV y = some r) (hK : Good w0 S0 B site o st y r K) : o.wpR R P a w K Q := by
  rw [evBuiltin_eq] at h
  unfold evBuiltin0 at h
  split at h
  · rename_i t tr x hts hx
    exact op_len hR hO hsub ho hts hx h hK
  · rename_i k x rest hx
    split at h
    · rename_i n hn; exact op_min hR hO ho hx hn h hK
    · cases h
  · rename_i k x rest hx
    split at h
    · rename_i n hn; exact op_max hR hO ho hx hn h hK
    · cases h
  · rename_i t tr id hts hx
    split at h
    · rename_i e ht
      split at h
      · rename_i im s e' es sp hl; exact op_cap hR hO hsub ho hts hx ht hl h hK
      · cases h
    · cases h
  · rename_i t t' id lo len z hts hx
    split at h
    · cases h
    · rename_i htt
      have htt' : t' = t := by simpa using htt
      subst htt'
      split at h
      · rename_i e ht
        split at h
        · rename_i s e' es sp hl
          split at h
          · rename_i s2 es2 hz
            split at h
            · rename_i hc
              simp only [Bool.and_eq_true] at hc
              have e1 := Sh.beq_eq _ _ hc.1
              subst e1
              obtain ⟨hb, h⟩ := bif_some h
              exact op_copy hR hO hsub ho hts hx ht hl hz hc.2 (of_decide_eq_true hb) h hK
            · cases h
          · cases h
        · cases h
      · cases h
  · rename_i t id lo len hts hx
    split at h
    · rename_i e ht
      split at h
      · rename_i s e' es sp hl
        split at h
        · rename_i hc
          simp only [Bool.and_eq_true] at hc
          obtain ⟨hb, h⟩ := bif_some h
          exact op_clear hR hO hsub ho hts hx ht hl (Sh.beq_eq _ _ hc.1) hc.2 (of_decide_eq_true hb) h hK
        · cases h
      · cases h
    · cases h
  · rename_i t t' id lo i k n hts hx
    split at h
    · rename_i e k' ht ht'
      split at h
      · rename_i im s e' es sp hl
        split at h
        · rename_i hc
          simp only [Bool.and_eq_true, beq_iff_eq] at hc
          obtain ⟨c1, c2, c3, c4, c5⟩ := hc
          subst c1
          obtain ⟨hb, h⟩ := bif_some h
          simp only [Bool.and_eq_true, decide_eq_true_eq] at hb
          obtain ⟨b1, b2, b3, b4⟩ := hb
          exact op_append_zeros hR hO hsub (fresh_of rfl (hfr _ h)) ho hts hx ht ht' hl (Sh.beq_eq _ _ c4) c5 b1 b2 b3 b4 h hK
        · cases h
      · cases h
    · cases h
  · rename_i t t' x z hov hts hx
    split at h
    · rename_i e ht
      split at h
      · cases h
      · rename_i s2 es2 hz
        split at h
        · rename_i s
          split at h
          · rename_i hc
            simp only [Bool.and_eq_true] at hc
            obtain ⟨h1, h2, h3⟩ := hc
            have e1 := Sh.beq_eq _ _ h1
            have e2 := Sh.beq_eq _ _ h2
            subst e1
            obtain ⟨hb, h⟩ := bif_some h
            have hf := hfr _ h
            exact op_append_new hR hO hsub (fresh_of rfl hf) ho hts hx ht hz e2 h3 hb h hK
          · cases h
        · rename_i id
          split at h
          · rename_i s e' es hl
            split at h
            · rename_i hc
              simp only [Bool.and_eq_true, beq_iff_eq] at hc
              obtain ⟨h1, h2, h3, h4⟩ := hc
              have e1 := Sh.beq_eq _ _ h1
              have e2 := Sh.beq_eq _ _ h2
              subst e1
              subst h3
              obtain ⟨hb, h⟩ := bif_some h
              have hf := hfr _ h
              exact op_append_own hR hO hsub (fresh_of rfl hf) ho hts hx ht hz hl e2 h4 hb h hK
            · cases h
          · cases h
        · cases h
    · cases h
  · cases h
theorem subOf_spec {x : AV} {mx : Option Operand} {rows : List (Nat × Row)} {id : Nat} {r0 : Row} (h : subOf x mx rows = some (id, r0)) : mx = none ∧ x = .own id ∧ lookup rows id = some r0 := by
  unfold subOf at h
  split at h
  · rename_i i
    split at h
    · rename_i r hr; cases h; exact ⟨rfl, rfl, hr⟩
    · cases h
  · cases h
theorem evOp_sound (hΓ : GOK P Γ) (hR : Rel w S B β og st a) (hO : Out w0 S0 B w S) (hsub : ∀ id x, lookup rowsV id = some x → lookup st.rows id = some x) (hfr : ∀ e, y e = some r → freshB site e st.used = true)
    (h : evOp P Γ site o st.tm rowsV y = some r) (hK : Good w0 S0 B site o st y r K) : o.wpR R P a w K Q := by
  have h' := h
  unfold evOp at h
  split at h
  · rename_i x ho; exact op_move hR hO (.inl ho) h hK
  · rename_i x ho; exact op_move hR hO (.inr ho) h hK
  · rename_i c x z ho
    split at h
    · rename_i t hc
      refine op_pick hR hO ho hc (t := t) ?_ hK
      cases t <;> simpa using h
    · cases h
  · rename_i t ho
    split at h
    · rename_i cs hz; exact op_alloc hR hO (fresh_of rfl (hfr _ h)) ho hz h hK
    · cases h
  · rename_i t x ho
    split at h
    · rename_i hl; exact op_box hR hO (fresh_of rfl (hfr _ h)) ho hl h hK
    · cases h
  · rename_i t parts ho
    split at h
    · rename_i cs hz
      split at h
      · rename_i hk
        split at h
        · rename_i cs' hf; exact op_build hR hO ho hz hk hf h hK
        · cases h
      · cases h
    · cases h
  · rename_i t len parts ho
    split at h
    · rename_i e ht
      split at h
      · rename_i hl
        subst hl
        split at h
        · rename_i hc
          simp only [Bool.and_eq_true, beq_iff_eq] at hc
          exact op_buildSlice0 hR hO ho ht hc.1 hc.2 h hK
        · cases h
      · rename_i hl
        split at h
        · cases h
        · rename_i hc
          simp only [Bool.or_eq_true, Bool.not_eq_true', not_or, Bool.not_eq_false, Bool.not_eq_true] at hc
          obtain ⟨h1, h2, h3⟩ := hc
          have h2' : len ≤ 1000 := blt_false h2
          have h3' : P.cellsOf e ≤ 1000 := blt_false h3
          split at h
          · rename_i z hz
            split at h
            · rename_i q hq
              obtain ⟨qs, ids⟩ := q
              split at h
              · rename_i es hf
                split at h
                · rename_i hall; exact op_buildSlice hR hO hsub (fresh_of rfl (hfr _ h)) ho ht h1 h2' h3' hl hz hq hf hall h hK
                · cases h
              · cases h
            · cases h
          · cases h
    · cases h
  · rename_i t x ho; exact op_load hR hO hsub ho h' hK
  · rename_i t x z ho
    split at h
    · rename_i hc
      simp only [Bool.and_eq_true, beq_iff_eq, bne_iff_ne, ne_eq] at hc
      obtain ⟨h1, h2, h3⟩ := hc
      split at h
      · rename_i id off hx
        split at h
        · rename_i cs hl
          split at h
          · rename_i hle; exact op_store_ptr hR hO ho h1 h2 h3 hx (hsub _ _ hl) (Nat.le_of_ble_eq_true hle) h hK
          · cases h
        · cases h
      · rename_i id i off hx
        split at h
        · rename_i s e pre cs post hfo
          have hl := focOf_spec hfo
          by_cases e1 : i = pre.length
          · subst e1
            rw [decide_eq_true rfl, cond_true] at h
            split at h
            · rename_i hle; exact op_store_hole hR hO ho hx (hsub _ _ hl) h1 h2 h3 (Nat.le_of_ble_eq_true hle) h hK
            · cases h
          · rw [decide_eq_false e1, cond_false] at h
            split at h
            · cases h
            split at h
            · rename_i p hp
              obtain ⟨v', ids⟩ := p
              split at h
              · rename_i hc2
                simp only [Bool.and_eq_true, Bool.not_eq_true', beq_iff_eq] at hc2
                obtain ⟨c1, c2, c3, c4⟩ := hc2
                by_cases e2 : i < pre.length
                · rw [decide_eq_true e2, cond_true] at h
                  split at h
                  · rename_i c5; exact op_store_pre hR hO hsub ho hx hp hl c1 c2 c3 h3 (Nat.le_of_ble_eq_true c4) c5 e2 h hK
                  · cases h
                · rw [decide_eq_false e2, cond_false] at h
                  obtain ⟨hb, h⟩ := bif_some h
                  split at h
                  · rename_i c5
                    exact op_store_post hR hO hsub ho (hx.trans (by rw [show pre.length + 1 + (i - (pre.length + 1)) = i from by omega])) hp hl c1 c2 c3 h3 (Nat.le_of_ble_eq_true c4) c5 (of_decide_eq_true hb) h hK
                  · cases h
              · cases h
            · cases h
        split at h
        · rename_i p hp
          obtain ⟨v', ids⟩ := p
          split at h
          · rename_i s e es hl
            split at h
            · rename_i hc2
              simp only [Bool.and_eq_true, Bool.not_eq_true', beq_iff_eq] at hc2
              obtain ⟨c1, c2, c3, c4, c5⟩ := hc2
              obtain ⟨hb, h⟩ := bif_some h
              exact op_store_elem hR hO hsub ho hx hp hl c1 c2 c3 h3 (Nat.le_of_ble_eq_true c4) c5 (of_decide_eq_true hb) h hK
            · cases h
          · cases h
        · cases h
      · cases h
    · cases h
  · rename_i x ho
    split at h
    · rename_i id off hx; exact op_nilCheck hR hO ho hx (.inl ⟨_, _, rfl⟩) h hK
    · rename_i id i off hx; exact op_nilCheck hR hO ho hx (.inr (.inl ⟨_, _, _, rfl⟩)) h hK
    · rename_i cs hx; exact op_nilCheck hR hO ho hx (.inr (.inr (.inl ⟨_, rfl⟩))) h hK
    · rename_i s es i off hx; exact op_nilCheck hR hO ho hx (.inr (.inr (.inr (.inl ⟨_, _, _, _, rfl⟩)))) h hK
    · rename_i f cs hx; exact op_nilCheck hR hO ho hx (.inr (.inr (.inr (.inr ⟨_, _, rfl⟩)))) h hK
    · cases h
  · rename_i op t x z t' ho
    split at h
    · rename_i hz; exact op_nil hR hO ho hz h hK
    · exact op_bin hR hO ho h hK
  · rename_i op t x ho
    split at h
    · rename_i k n hx; exact op_neg hR hO ho hx h hK
    · rename_i b hx; exact op_not hR hO ho hx h hK
    · cases h
  · rename_i src dst x ho
    split at h
    · rename_i k0 k k1 n hs hd hx; exact op_convert_int hR hO ho hs hd hx h hK
    · rename_i s hs hd hx; exact op_convert_str hR hO ho hs hd hx h hK
    · rename_i k0 k1 n hs hd hx; exact op_convert_rune hR hO ho hs hd hx h hK
    · rename_i e0 e id hs hd hx
      split at h
      · rename_i hc
        simp only [Bool.and_eq_true] at hc
        split at h
        · rename_i s e' x0 es sp hl
          split at h
          · rename_i hsh; exact op_mark hR hO hsub ho hs hd hx hc.2.1 hc.2.2 hl hsh (by simp) h hK
          · cases h
        · cases h
      · cases h
    · rename_i e s hs hd hx
      split at h
      · rename_i hc
        simp only [Bool.and_eq_true] at hc
        obtain ⟨hb, h2⟩ := bif_some h
        exact op_bytes hR hO (fresh_of rfl (hfr _ h2)) ho hs hd hx hc.2.1 hb h2 hK
      · split at h
        · rename_i hc
          simp only [Bool.and_eq_true] at hc
          obtain ⟨hb, h2⟩ := bif_some h
          exact op_runes hR hO (fresh_of rfl (hfr _ h2)) ho hs hd hx hc.2.1 (of_decide_eq_true hb) h2 hK
        · cases h
    · rename_i e hs hd
      split at h
      · rename_i hc
        simp only [Bool.and_eq_true] at hc
        rw [elemsK_def] at h
        split at h
        · cases h
        · rename_i s es hx
          split at h
          · rename_i hsh; exact op_string hR hO hsub ho hs hd hx hc.2 hsh h hK
          · cases h
      · split at h
        · rename_i hc
          simp only [Bool.and_eq_true] at hc
          rw [elemsK_def] at h
          split at h
          · cases h
          · rename_i s es hx
            split at h
            · rename_i hsh; exact op_runeStr hR hO hsub ho hs hd hx hc.2 hsh h hK
            · cases h
        · cases h
    · cases h
  · rename_i f first captured ho
    split at h
    · rename_i hf; exact op_makeFunc hR hO ho hf h hK
    · cases h
  · rename_i t x lo hi mx ho
    split at h
    · rename_i hc
      simp only [Bool.and_eq_true] at hc
      obtain ⟨hl, hh⟩ := hc
      split at h
      · rename_i s ht hx
        split at h
        · rename_i hm
          have hmx : mx = none := by simpa using hm
          subst hmx
          obtain ⟨hb, h⟩ := bif_some h
          exact op_slice_str hR hO ho ht hx hl hh hb h hK
        · cases h
      · rename_i n e x' ht
        split at h
        · rename_i hc
          simp only [Bool.and_eq_true, Option.isNone_iff_eq_none] at hc
          obtain ⟨rfl, rfl, rfl, hi, hn⟩ := hc
          split at h
          · rename_i cs ids hx
            split at h
            · rename_i hc
              simp only [Bool.and_eq_true] at hc
              exact op_slice_arr hR hO hsub ho ht hx hi (Nat.le_of_ble_eq_true hn) (Nat.le_of_ble_eq_true hc.1) (List.all_eq_true.1 hc.2) h hK
            · cases h
          · cases h
        · cases h
      · rename_i e ht
        split at h
        · rename_i id im s e' es sp hso
          split at h
          · cases h
          · rename_i hs
            have hs' : sizeOK P e s = true := by simpa using hs
            obtain ⟨hmx, hx, hl0⟩ := subOf_spec hso
            subst hmx
            split at h
            · rename_i hx2
              have hlo : lo = none := by
                cases lo with
                | none => rfl
                | some _ => simp at hx2
              subst hlo
              split at h
              · rename_i l
                obtain ⟨hb2, h⟩ := bif_some h
                simp only [Bool.and_eq_true, decide_eq_true_eq] at hb2
                exact op_slice_ext hR hO (fresh_of rfl (hfr _ h)) ho ht hx (hsub _ _ hl0) hs' hh hb2.1 hb2.2 h hK
              · cases h
            · obtain ⟨hb, h⟩ := bif_some h
              exact op_slice_sub hR hO ho ht hx (hsub _ _ hl0) hs' hl hh hb h hK
        · cases h
        split at h
        · rename_i s es ids hp
          split at h
          · cases h
          · rename_i hs
            have hs' : sizeOK P e s = true := by simpa using hs
            split at h
            · obtain ⟨hb, h⟩ := bif_some h
              exact op_slice_slv hR hO hsub ho ht hp hs' hl hh hb h hK
            · rename_i m
              split at h
              · rename_i k n k' mm hhi hm
                obtain ⟨hb, h⟩ := bif_some h
                simp only [Bool.and_eq_true, beq_iff_eq, decide_eq_true_eq] at hb
                obtain ⟨rfl, b1, b2⟩ := hb
                cases hi with
                | none => simp at hhi
                | some h' =>
                  simp only [Option.map_some, Option.some.injEq] at hhi
                  exact op_slice_cut hR hO hsub ho ht hp hs' hhi hm b1 b2 h hK
              · cases h
            · rename_i m _
              split at h
              · rename_i k mm hm
                split at h
                · rename_i hc2
                  simp only [Bool.and_eq_true, beq_iff_eq] at hc2
                  obtain ⟨c1, c2, c3⟩ := hc2
                  subst c1
                  exact op_slice_zero hR hO hsub ho ht hp hs' hm hl hh c2 c3 h hK
                · cases h
              · cases h
        · cases h
      · cases h
    · cases h
  · rename_i t x f ho
    split at h
    · rename_i fl hfl
      split at h
      · cases h
      · rename_i hz
        have hz' : P.cellsOf fl.type ≠ 0 := by simpa using hz
        split at h
        · rename_i id off hx; exact op_fieldAddr hR hO ho hfl hz' hx (.inl ⟨_, _, rfl, rfl⟩) h hK
        · rename_i id i off hx; exact op_fieldAddr hR hO ho hfl hz' hx (.inr (.inl ⟨_, _, _, rfl, rfl⟩)) h hK
        · rename_i s es i off hx; exact op_fieldAddr hR hO ho hfl hz' hx (.inr (.inr (.inr ⟨_, _, _, _, rfl, rfl⟩))) h hK
        · rename_i cs hx; exact op_fieldAddr hR hO ho hfl hz' hx (.inr (.inr (.inl ⟨_, rfl, rfl⟩))) h hK
        · cases h
    · cases h
  · rename_i t x f ho; exact op_field hR hO ho h' hK
  · rename_i t x i ho
    split at h
    · rename_i k n hi
      split at h
      · rename_i e s es ht hx
        split at h
        · rename_i hs
          obtain ⟨hb, h⟩ := bif_some h
          exact op_indexAddr_slv hR hO ho ht hx hi hs hb h hK
        · cases h
      · rename_i e id ht hx
        split at h
        · rename_i im s e' es hl
          split at h
          · rename_i hs
            obtain ⟨hb, h⟩ := bif_some h
            exact op_indexAddr_own hR hO ho ht hx (hsub _ _ hl) hi hs hb h hK
          · cases h
        · rename_i im s e' pre cs post hl
          split at h
          · rename_i hs
            obtain ⟨hb, h⟩ := bif_some h
            exact op_indexAddr_foc hR hO ho ht hx (hsub _ _ hl) hi hs hb h hK
          · cases h
        · cases h
      · rename_i e id lo len ht hx
        split at h
        · rename_i im s e' es csp hl
          split at h
          · rename_i hs
            obtain ⟨hb, h⟩ := bif_some h
            simp only [Bool.and_eq_true, decide_eq_true_eq] at hb
            exact op_indexAddr_sub hR hO ho ht hx (hsub _ _ hl) hi hs hb.1 hb.2 h hK
          · cases h
        · cases h
      · rename_i len e id off ht hx
        split at h
        · rename_i hs
          obtain ⟨hb, h⟩ := bif_some h
          exact op_indexAddr_ptr hR hO ho ht hx hi hs hb h hK
        · cases h
      · rename_i len e cs ht hx
        split at h
        · rename_i hs
          obtain ⟨hb, h⟩ := bif_some h
          exact op_indexAddr_ref hR hO ho ht hx hi hs hb h hK
        · cases h
      · cases h
    · cases h
  · rename_i t x i ho
    split at h
    · rename_i k n hi
      split at h
      · rename_i s ht hx
        obtain ⟨hb, h⟩ := bif_some h
        exact op_index_str hR hO ho ht hx hi hb h hK
      · rename_i len e cs ht hx
        split at h
        · cases h
        · rename_i hag
          split at h
          · rename_i hc
            simp only [Bool.and_eq_true, beq_iff_eq] at hc
            obtain ⟨c0, c1, c2, c3⟩ := hc
            obtain ⟨hb, h⟩ := bif_some h
            exact op_index_arr hR hO ho ht hx hi (by simpa using hag) c1 c0 c2 c3 hb h hK
          · cases h
      · cases h
    · cases h
  · rename_i x i ho
    split at h
    · rename_i vs hx
      split at h
      · rename_i v hv; exact op_extract hR hO ho hx hv h hK
      · cases h
    · cases h
  · rename_i t x ho
    split at h
    · rename_i s ht hx; exact op_range hR hO (fresh_of rfl (hfr _ h)) ho ht hx h hK
    · cases h
  · rename_i x ho
    split at h
    · rename_i id hx
      split at h
      · rename_i s p hl; exact op_next hR hO ho hx (hsub _ _ hl) h hK
      · cases h
    · cases h
  · rename_i t x ho
    split at h
    · rename_i e ht
      split at h
      · rename_i cs ids hx
        exact op_iface hR hO hsub ho ht hx h hK
      · cases h
    · cases h
  · rename_i t l c ho
    split at h
    · rename_i e k n k' m ht hl hc
      split at h
      · rename_i hel
        obtain ⟨hb, h2⟩ := bif_some h
        simp only [Bool.and_eq_true, beq_iff_eq, decide_eq_true_eq] at hb
        obtain ⟨rfl, b2, b3⟩ := hb
        exact op_makeSlice hR hO (fresh_of rfl (hfr _ h2)) ho ht hl hc hel b2 b3 h2 hK
      · cases h
    · cases h
  · rename_i b args ts ho; exact evBuiltin_sound hR hO hsub hfr ho h hK
  · rename_i f args ts ho
    split at h
    · rename_i g caps hf
      split at h
      · rename_i F hF
        split at h
        · rename_i hen
          exact op_callX hR hO hsub hfr ho hf (hΓ.opens g F (xOf_find hF)) hen h hK
        · cases h
      split at h
      · rename_i p hp
        obtain ⟨pargs, ids⟩ := p
        split at h
        · rename_i F hF
          split at h
          · rename_i hen
            exact op_call hR hO hsub ho hf hp (hΓ.pure g F hF) hen h hK
          · cases h
        · cases h
      · cases h
    · rename_i id hf
      split at h
      · rename_i key np F hF
        obtain ⟨hnp, hy, _⟩ := hΓ.yld key np F hF
        split at h
        · rename_i key' tm' hl
          split at h
          · rename_i hc
            simp only [Bool.and_eq_true, beq_iff_eq] at hc
            obtain ⟨rfl, hn⟩ := hc
            exact op_yield hR hO hsub hfr ho hf hl (hn.trans hnp) hy h hK
          · cases h
        · cases h
      · cases h
    · cases h
  · cases h
end ops
end Go.Ev

namespace Go.Ev
open Go.RowKit
section regions
variable {R : Option Nat} {ρ : Type} {P : Program} {w0 : World} {S0 : Nat → Prop} {B : Ctx} {Γ : Env} {Q : Exit → Act → World → Prop}
theorem guard_at {w : World} {S : Nat → Prop} {β : Bet} {tm : List AV} {a : Act} (h : VRels w S β tm a.tmps.toList) (ops : Array Oper) (j : Nat) :
    (∀ b, guardAt ops.toList tm j = .bool b → yielded ops a.tmps j = some b) ∧ (guardAt ops.toList tm j = .undef → yielded ops a.tmps j = none) := by
  unfold guardAt yielded
  simp only [Array.getElem?_toList]
  cases ho : ops[j]? with
  | none => simp
  | some o =>
    simp only [Option.bind_some]
    cases hd : o.dst with
    | none => simp
    | some d =>
      simp only [Option.bind_some]
      have hat : ∀ c, tm.getD d .unk = c → c ≠ .unk → ∃ u, a.tmps[d]? = some u ∧ VRel w S β c u := fun c hc hne => by
        cases ht : tm[d]? with
        | none => simp [List.getD, ht] at hc; exact absurd hc.symm hne
        | some c' =>
          simp [List.getD, ht] at hc
          subst hc
          obtain ⟨u, hu, hv⟩ := h.at_ ht
          exact ⟨u, by simpa using hu, hv⟩
      constructor
      · intro b hb
        obtain ⟨u, hu, hv⟩ := hat _ hb (by simp)
        rw [hu, hv.bool_inv]
      · intro hb
        obtain ⟨u, hu, hv⟩ := hat _ hb (by simp)
        rw [hu]
        cases hv
        rfl
theorem set_same {tm : List AV} {d : Nat} {c : AV} (h : tm.getD d .unk = c) (hne : c ≠ .unk) : tm.set d c = tm := by
  cases ht : tm[d]? with
  | none => simp [List.getD, ht] at h; exact absurd h.symm hne
  | some c' =>
    simp [List.getD, ht] at h
    subst h
    obtain ⟨hd, he⟩ := List.getElem?_eq_some_iff.1 ht
    rw [← he]
    exact List.set_getElem_self hd
theorem decideAt_eq {ops : List Oper} {i : Nat} {dst : Option Tmp} {st : St} {k : St → Option ρ} {r : ρ} (h : decideAt ops i dst st k = some r) : k st = some r := by
  unfold decideAt at h
  split at h
  · split at h
    · rename_i d
      split at h
      · rename_i b hb
        have hs := set_same hb (by simp)
        cases b with
        | true => simp only [cond_true, hs] at h; exact h
        | false => simp only [cond_false, hs] at h; exact h
      · cases h
    · cases h
  · exact h
theorem evOps_sound (hΓ : GOK P Γ) {ops : Array Oper} {rid : Nat} {k : St → Option ρ} {r : ρ} (hk : ∀ st a w, k st = some r → RelX w0 S0 B st a w → Q .normal a w) :
    ∀ (l : List Oper) (i : Nat) (st : St) (a : Act) (w : World), evOps P Γ rid ops.toList none k i l st = some r → RelX w0 S0 B st a w → wpListIn (fen R) 0 P ops Q l a w
  | [], i, st, a, w, h, hR => hk st a w h hR
  | o :: rest, i, st, a, w, h, ⟨S, β, og, hR, hO⟩ => by
    have ih := evOps_sound hΓ (ops := ops) (rid := rid) hk rest (i + 1)
    have run : evOp P Γ (rid * 64 + i) o st.tm st.rows (fun e => if freshB (rid * 64 + i) e st.used then (apply (rid * 64 + i) o.dst e st).force fun st1 => decideAt ops.toList i o.dst st1 (evOps P Γ rid ops.toList none k (i + 1) rest) else none) = some r →
        ∀ K : Act → World → Prop, (∀ a w, wpListIn (fen R) 0 P ops Q rest a w → K a w) → o.wpR R P a w K Q := fun hrun K hK => by
      refine evOp_sound hΓ hR hO (fun _ _ h => h) (fun e he => ?_) hrun (fun e a' w' he hx => hK _ _ ?_)
      · by_cases hf : freshB (rid * 64 + i) e st.used = true
        · exact hf
        · simp [hf] at he
      · by_cases hf : freshB (rid * 64 + i) e st.used = true
        · simp only [hf, if_true, St.force_eq] at he
          exact ih _ _ _ (decideAt_eq he) hx
        · simp [hf] at he
    have skip : evOps P Γ rid ops.toList none k (i + 1) rest ⟨putTm st.tm o.dst .undef, st.rows, st.used⟩ = some r → wpListIn (fen R) 0 P ops Q rest (a.put o.dst undef) w := fun hs =>
      ih _ _ _ hs ⟨S, β, og, hR.put o.dst (.undef _), hO⟩
    refine wpListIn_step fun K hK => ?_
    simp only [evOps] at h
    split at h
    · rename_i hg
      simp only [Region.wanted, hg, if_true]
      exact run h K hK
    · rename_i j want hg
      obtain ⟨hgb, hgu⟩ := guard_at hR.tm ops j
      simp only [Region.wanted, hg]
      split at h
      · rename_i b hb
        rw [hgb b hb]
        cases hbw : (b == want) with
        | true =>
          simp only [hbw, cond_true] at h
          have hbe : b = want := by simpa using hbw
          simp only [hbe, beq_self_eq_true, if_true]
          exact run h K hK
        | false =>
          simp only [hbw, cond_false] at h
          have hbe : ¬ (some b == some want) = true := by simpa using hbw
          rw [if_neg hbe]
          exact ⟨fun _ _ => trivial, hK _ _ (skip h)⟩
      · rename_i hb
        rw [hgu hb]
        have : ¬ ((none : Option Bool) == some want) = true := by simp
        rw [if_neg this]
        exact ⟨fun _ _ => trivial, hK _ _ (skip h)⟩
      · cases h
end regions
def restr (β : Bet) (ids : List Nat) : Bet := fun i => if ids.contains i then β i else none
theorem only_rel {w : World} {S : Nat → Prop} {β : Bet} {v : AV} {u : Value} (ids : List Nat) (h : VRel w S β v u) : VRel w S (restr β ids) (v.only ids) u := by
  have hL : ∀ (cs : List AV) (j : Nat) (c : AV), (AV.onlys ids cs)[j]? = some c → ∃ c', cs[j]? = some c' ∧ c = c'.only ids := by
    intro cs
    induction cs with
    | nil => intro j c hc; simp [AV.onlys] at hc
    | cons x cs ih =>
      intro j c hc
      cases j with
      | zero => simp [AV.onlys] at hc; exact ⟨x, rfl, hc.symm⟩
      | succ j => simp only [AV.onlys, List.getElem?_cons_succ] at hc; obtain ⟨c', h1, h2⟩ := ih j c hc; exact ⟨c', by simpa using h1, h2⟩
  have hlen : ∀ cs : List AV, (AV.onlys ids cs).length = cs.length := by
    intro cs
    induction cs with
    | nil => rfl
    | cons x cs ih => simp [AV.onlys, ih]
  induction h with
  | unk β v => exact .unk _ v
  | undef => exact .undef _
  | int β k n => exact .int _ k n
  | bool β b => exact .bool _ b
  | ubool β b => exact .ubool _ b
  | nl β v h => exact .nl _ v h
  | str β s => exact .str _ s
  | agg β cs vs hl h1 _ ih =>
    refine .agg _ _ vs (by rw [hlen]; exact hl) h1 fun j c u hc hu => ?_
    obtain ⟨c', hc', rfl⟩ := hL cs j c hc
    exact ih j c' u hc' hu
  | tup β cs vs hl _ ih =>
    refine .tup _ _ vs (by rw [hlen]; exact hl) fun j c u hc hu => ?_
    obtain ⟨c', hc', rfl⟩ := hL cs j c hc
    exact ih j c' u hc' hu
  | slv β s es A c a xs hs hc hm hA hl h1 hx hh _ => exact .slv _ s es A c a xs hs hc hm hA hl h1 hx hh
  | slz β s A => exact .slz _ s A
  | eref β s es i off a xs hi hs hSa hl h1 hx hh _ => exact .eref _ s es i off a xs hi hs hSa hl h1 hx hh
  | ref β cs a xs hSa hl h1 hx hh _ => exact .ref _ cs a xs hSa hl h1 hx hh
  | ifr β t cs v hh _ => exact .ifr _ t cs v hh
  | ptr β id off g wd hbt =>
    simp only [AV.only]
    split
    · rename_i hc; exact .ptr _ id off g wd (by simp only [restr, hc, if_true]; exact hbt)
    · exact .unk _ _
  | eptr β id i off g n c wd hbt =>
    simp only [AV.only]
    split
    · rename_i hc; exact .eptr _ id i off g n c wd (by simp only [restr, hc, if_true]; exact hbt)
    · exact .unk _ _
  | own β id v wd hbt =>
    simp only [AV.only]
    split
    · rename_i hc; exact .own _ id v wd (by simp only [restr, hc, if_true]; exact hbt)
    · exact .unk _ _
  | sub β id lo len A n c wd hbt =>
    simp only [AV.only]
    split
    · rename_i hc; exact .sub _ id lo len A n c wd (by simp only [restr, hc, if_true]; exact hbt)
    · exact .unk _ _
  | fn β f cs vs hl _ ih =>
    refine .fn _ f _ vs (by rw [hlen]; exact hl) fun j c u hc hu => ?_
    obtain ⟨c', hc', rfl⟩ := hL cs j c hc
    exact ih j c' u hc' hu
theorem onlys_rel {w : World} {S : Nat → Prop} {β : Bet} (ids : List Nat) : ∀ (cs : List AV) (us : List Value), VRels w S β cs us → VRels w S (restr β ids) (AV.onlys ids cs) us
  | [], us, h => by rw [h.inv_nil]; exact VRels.nil
  | c :: cs, us, h => by
    obtain ⟨u, us', rfl, hu, hs⟩ := h.inv
    exact VRels.cons (only_rel ids hu) (onlys_rel ids cs us' hs)
theorem mask_rel {w : World} {S : Nat → Prop} {β : Bet} (slots ids : List Nat) : ∀ (cs : List AV) (us : List Value) (i : Nat), VRels w S β cs us → VRels w S (restr β ids) (maskFrom slots ids i cs) us
  | [], us, i, h => by rw [h.inv_nil]; exact VRels.nil
  | c :: cs, us, i, h => by
    obtain ⟨u, us', rfl, hu, hs⟩ := h.inv
    refine VRels.cons ?_ (mask_rel slots ids cs us' (i + 1) hs)
    split
    · exact only_rel ids hu
    · exact .unk _ _
theorem lookup_keepRows (rows : List (Nat × Row)) (ids : List Nat) : ∀ (l : List Nat) (i : Nat) (r : Row), lookup (keepRows rows ids l) i = some r → i ∈ l ∧ ∃ r', lookup rows i = some r' ∧ r = r'.only ids
  | [], i, r, h => by simp [keepRows, lookup] at h
  | x :: l, i, r, h => by
    simp only [keepRows] at h
    cases hx : lookup rows x with
    | none =>
      simp only [hx] at h
      obtain ⟨h1, h2⟩ := lookup_keepRows rows ids l i r h
      exact ⟨List.mem_cons_of_mem _ h1, h2⟩
    | some r' =>
      simp only [hx, lookup] at h
      split at h
      · rename_i e
        cases h
        subst e
        exact ⟨by simp, r', hx, rfl⟩
      · obtain ⟨h1, h2⟩ := lookup_keepRows rows ids l i r h
        exact ⟨List.mem_cons_of_mem _ h1, h2⟩
theorem restr_some {β : Bet} {ids : List Nat} {i : Nat} {x : Value × Nat} (h : restr β ids i = some x) : i ∈ ids ∧ β i = some x := by
  simp only [restr] at h
  split at h
  · rename_i hc; exact ⟨by simpa using hc, h⟩
  · cases h
theorem Rel.mask {w : World} {S : Nat → Prop} {B : Ctx} {β : Bet} {og : Nat → Option Nat} {st : St} {a : Act} (h : Rel w S B β og st a) (slots ids : List Nat) : Rel w S B (restr β ids) og (mask slots ids st) a := by
  refine ⟨mask_rel slots ids _ _ 0 h.tm, h.df, fun i r hr => ?_, h.inj, h.lt, fun i x hx => (restr_some hx).1, fun i x hx => h.one i x (restr_some hx).2, h.Slt, h.Ble, fun i x hp hx => h.pid i x hp (restr_some hx).2⟩
  obtain ⟨hi, r', hl, rfl⟩ := lookup_keepRows st.rows ids ids i r hr
  have hc : ids.contains i = true := by simpa using hi
  have h0 := h.row i r' hl
  cases r' with
  | box imm cs =>
    obtain ⟨g, vs, t, ho, hb, hh, hv, r1, r2, r3⟩ := h0
    exact ⟨g, vs, t, ho, by simp only [restr, hc, if_true]; exact hb, hh, onlys_rel ids cs vs hv, r1, r2, r3⟩
  | arr imm s e es csp =>
    obtain ⟨hp, v, sp, xs, hsh, hcs, hb, rest⟩ := h0
    exact ⟨hp, v, sp, xs, hsh, hcs, by simp only [restr, hc, if_true]; exact hb, rest⟩
  | foc imm s e pre cs post =>
    obtain ⟨hp, hcl, g, sp, xs, us, ys, h1, h2, ho, hb, h3, vx, vu, vy, rest⟩ := h0
    have ve := onlys_rel ids cs us vu
    exact ⟨hp, ve.1.symm.trans (vu.1.trans hcl), g, sp, xs, us, ys, h1, h2, ho, by simp only [restr, hc, if_true]; exact hb, h3, vx, ve, vy, rest⟩
theorem Rel.rename {w : World} {S : Nat → Prop} {B : Ctx} {β : Bet} {og : Nat → Option Nat} {st : St} {a : Act} (h : Rel w S B β og st a) {id n : Nat} {r : Row} (hl : lookup st.rows id = some r) (hf : Fresh n st.used) :
    Rel w S B (upd β n (β id)) (upd (upd og id none) n (og id)) ⟨st.tm, setRow (delRow st.rows id) n r, n :: st.used⟩ a ∧ ∀ v, VRel w S β (.own id) v → VRel w S (upd β n (β id)) (.own n) v := by
  have hβ : ∀ i y, β i = some y → upd β n (β id) i = some y := fun i y hy => by
    have hne : i ≠ n := fun e => hf.1 (by rw [← e]; exact h.used i y hy)
    rw [upd_other _ _ _ _ hne]; exact hy
  refine ⟨⟨h.tm.mono (fun _ h => h) (fun _ _ => rfl) hβ, h.df, fun i y hy => ?_, fun i i' g hgi hgi' => ?_, fun i g hgi => ?_, fun i y hy => ?_, fun i y hy => ?_, h.Slt, h.Ble, pid_upd h.pid hf.2⟩, fun v hv => ?_⟩
  · rw [lookup_setRow] at hy
    by_cases e : i = n
    · subst e
      simp only [if_pos] at hy
      cases hy
      rw [upd_same]
      have h0 := h.row id r hl
      cases r with
      | box imm cs =>
        obtain ⟨g, vs, t, ho, hb, hh, hv, r1, r2, r3⟩ := h0
        exact ⟨g, vs, t, ho, by rw [upd_same]; exact hb, hh, hv.mono (fun _ h => h) (fun _ _ => rfl) hβ, r1, r2, r3⟩
      | arr imm s e es csp =>
        obtain ⟨hp, v, sp, xs, hsh, hcs, hb, rest⟩ := h0
        exact ⟨hp, v, sp, xs, hsh, hcs, by rw [upd_same]; exact hb, rest⟩
      | foc imm s e pre cs post =>
        obtain ⟨hp, hcl, g, sp, xs, us, ys, h1, h2, ho, hb, h3, vx, vu, vy, rest⟩ := h0
        exact ⟨hp, hcl, g, sp, xs, us, ys, h1, h2, ho, by rw [upd_same]; exact hb, h3, vx, vu.mono (fun _ h => h) (fun _ _ => rfl) hβ, vy, rest⟩
    · rw [if_neg e, lookup_delRow] at hy
      by_cases e' : i = id
      · rw [if_pos e'] at hy; cases hy
      · rw [if_neg e'] at hy
        rw [upd_other _ _ _ _ e, upd_other _ _ _ _ e']
        exact (h.row i y hy).keep hβ (fun _ h => h) (fun _ _ h => h) (fun _ _ => rfl) (fun _ _ => rfl)
  · have aux : ∀ i, i ≠ n → upd (upd og id none) n (og id) i = some g → og i = some g ∧ i ≠ id := fun i hi hgi => by
      rw [upd_other _ _ _ _ hi] at hgi
      by_cases e' : i = id
      · rw [e', upd_same] at hgi; cases hgi
      · rw [upd_other _ _ _ _ e'] at hgi; exact ⟨hgi, e'⟩
    by_cases e : i = n <;> by_cases e' : i' = n
    · rw [e, e']
    · subst e; rw [upd_same] at hgi
      obtain ⟨h1, h2⟩ := aux i' e' hgi'
      exact absurd (h.inj i' id g h1 hgi) h2
    · subst e'; rw [upd_same] at hgi'
      obtain ⟨h1, h2⟩ := aux i e hgi
      exact absurd (h.inj i id g h1 hgi') h2
    · exact h.inj i i' g (aux i e hgi).1 (aux i' e' hgi').1
  · by_cases e : i = n
    · subst e; rw [upd_same] at hgi; exact h.lt id g hgi
    · rw [upd_other _ _ _ _ e] at hgi
      by_cases e' : i = id
      · rw [e', upd_same] at hgi; cases hgi
      · rw [upd_other _ _ _ _ e'] at hgi; exact h.lt i g hgi
  · by_cases e : i = n
    · subst e; simp
    · rw [upd_other _ _ _ _ e] at hy; exact List.mem_cons_of_mem _ (h.used i y hy)
  · by_cases e : i = n
    · subst e; rw [upd_same] at hy; exact h.one id y hy
    · rw [upd_other _ _ _ _ e] at hy; exact h.one i y hy
  · cases hv with
    | own _ _ _ wd hb => exact .own _ n v wd (by rw [upd_same]; exact hb)
theorem Rel.promote {w : World} {S : Nat → Prop} {B : Ctx} {β : Bet} {og : Nat → Option Nat} {st : St} {a : Act} (h : Rel w S B β og st a) {n : Nat} {s : Sh} (e : TypeId) (A : Option Addr) (hf : Fresh n st.used) (hs : 0 < s.width) :
    Rel w S B (upd β n (some (.slice A 0 0, s.width))) (upd og n none) ⟨st.tm, setRow st.rows n (.arr false s e [] none), n :: st.used⟩ a ∧ VRel w S (upd β n (some (.slice A 0 0, s.width))) (.own n) (.slice A 0 0) := by
  have hN := h.new n hf none (Below.refl _ _) (S' := S) (fun _ h => h) (fun _ _ h => h) h.Slt (r := .arr false s e [] none) (v := .unk) (u := undef) (x := .slice A 0 0) (wd := s.width) (o := none) rfl (fun g hg => by cases hg)
    ⟨hs, .slice A 0 0, [], [], by simp, (fun c h => by cases h), upd_same _ _ _, by simp, VRels.nil, .inl ⟨rfl, rfl, rfl, A, rfl⟩⟩ (.unk _ _)
  exact ⟨hN, .own _ n _ _ (upd_same _ _ _)⟩
end Go.Ev
