/-
  A region in whatever order its edges allow. Third part.
-/
import Derived.Test.YtpgaobdgohlegaaEvR
namespace Go.Ev
open Go.RowKit

section swap
variable {P : Program} {Γ : Env} {rid : Nat} {ops : Array Oper} {tab : List (List Nat)}

/-- What a step does: its operation's outcome, or nothing where its guard says so. -/
def eD (P : Program) (Γ : Env) (rid : Nat) (ops : Array Oper) (tab : List (List Nat)) (i : Nat) (o : Oper) (tm : List AV) (rows : List (Nat × Row)) : Option Eff :=
  match o.guard with
  | none => evOp P Γ (rid * 64 + i) o tm (visible rid (tab.getD i []) rows) some
  | some (j, want) =>
    match guardAt ops.toList tm j with
    | .bool b => if b == want then evOp P Γ (rid * 64 + i) o tm (visible rid (tab.getD i []) rows) some else some { v := .undef }
    | .undef => some { v := .undef }
    | _ => none

theorem stepD_eq {i : Nat} {o : Oper} (ho : ops[i]? = some o) (st : St) : stepD P Γ rid ops tab i st = (eD P Γ rid ops tab i o st.tm st.rows).bind fun e => if freshB (rid * 64 + i) e st.used then some (apply (rid * 64 + i) o.dst e st) else none := by
  unfold stepD eD
  simp only [ho]
  cases hg : o.guard with
  | none => rfl
  | some p =>
    obtain ⟨j, want⟩ := p
    simp only
    cases hga : guardAt ops.toList st.tm j <;> simp only [Option.bind_none, Option.bind_some]
    all_goals first | rfl | skip
    · split <;> rfl

theorem eD_shape (hN : NatOK Γ) {i : Nat} {o : Oper} {tm : List AV} {rows : List (Nat × Row)} {e : Eff} (h : eD P Γ rid ops tab i o tm rows = some e) : Shape Γ o (visible rid (tab.getD i []) rows) e := by
  unfold eD at h
  split at h
  · exact eff_shape hN h
  · split at h
    · split at h
      · exact eff_shape hN h
      · cases h; exact shape_slot _ _ _
    · cases h; exact shape_slot _ _ _
    · cases h

theorem getD_put {tm : List AV} {dst : Option Tmp} {v : AV} {d : Nat} (h : dst ≠ some d) : (putTm tm dst v).getD d .unk = tm.getD d .unk := by
  cases dst with
  | none => rfl
  | some d' =>
    have hne : d' ≠ d := fun e => h (by rw [e])
    simp only [putTm, List.getD, List.getElem?_set_ne hne]

/-! ### A variable that is looked at, another one that is written -/
theorem fixed_ne {t i : Nat} {o : Oper} (h : fixedB ops t = true) (ho : ops[i]? = some o) : o.dst ≠ some t := fun hd => by
  unfold fixedB at h
  have := List.all_eq_true.1 h o (by simpa using Array.mem_of_getElem? ho)
  rw [hd] at this
  simp at this
def LoadAt (ops : Array Oper) (tm0 : List AV) (o : Oper) (i : Nat) : Prop := ∃ ty s off, o.op = .load ty (.tmp s) ∧ fixedB ops s = true ∧ tm0.getD s .unk = .ptr i off
def StoreAt (ops : Array Oper) (tm0 : List AV) (o : Oper) (j : Nat) : Prop := ∃ ty t z off, o.op = .store ty (.tmp t) z ∧ fixedB ops t = true ∧ tm0.getD t .unk = .ptr j off
def Fx (ops : Array Oper) (tm0 tm : List AV) : Prop := ∀ t, fixedB ops t = true → tm.getD t .unk = tm0.getD t .unk
/-- What y does is not changed by x, and y changes nothing. -/
def Quiet (Γ : Env) (ops : Array Oper) (tm0 : List AV) (x y : Oper) : Prop := touches Γ y.op = false ∨ ∃ i j, i ≠ j ∧ LoadAt ops tm0 y i ∧ StoreAt ops tm0 x j
theorem load_eff {site : Nat} {o : Oper} {ty : TypeId} {a : Operand} {tm : List AV} {rows : List (Nat × Row)} {e : Eff} (ho : o.op = .load ty a) (h : evOp P Γ site o tm rows some = some e) : e.new = none ∧ e.imm = [] := by
  have key : ∀ cs, evLoad P ty cs (fun v => some ({ v } : Eff)) = some e → e.new = none ∧ e.imm = [] := fun cs h => by
    rw [evLoad_bind] at h
    cases hl : evLoad P ty cs some with
    | none => simp [hl] at h
    | some v => simp [hl] at h; subst h; exact ⟨rfl, rfl⟩
  unfold evOp at h
  simp only [ho] at h
  split at h
  · split at h
    · exact key _ h
    · cases h
  · exact key _ h
  · exact key _ h
  · split at h
    · obtain ⟨_, h⟩ := bif_some h
      exact key _ h
    · cases h
  · cases h
theorem load_dep {site : Nat} {o : Oper} {ty : TypeId} {s i off : Nat} {tm : List AV} {rows rows' : List (Nat × Row)} {ρ : Type} {y : Eff → Option ρ} (ho : o.op = .load ty (.tmp s)) (hv : tm.getD s .unk = .ptr i off) (hl : lookup rows i = lookup rows' i) : evOp P Γ site o tm rows y = evOp P Γ site o tm rows' y := by
  unfold evOp
  simp only [ho, val, hv, hl]
theorem store_eff {site : Nat} {o : Oper} {ty : TypeId} {t j off : Nat} {z : Operand} {tm : List AV} {rows : List (Nat × Row)} {e : Eff} (ho : o.op = .store ty (.tmp t) z) (hv : tm.getD t .unk = .ptr j off) (h : evOp P Γ site o tm rows some = some e) : e.new = none ∧ e.imm = [] ∧ e.del = none ∧ e.dels = [] ∧ e.mods = [] ∧ e.news = [] ∧ ∃ r, e.mod = some (j, r) := by
  unfold evOp at h
  simp only [ho, val, hv] at h
  split at h
  · split at h
    · split at h
      · cases h; exact ⟨rfl, rfl, rfl, rfl, rfl, rfl, _, rfl⟩
      · cases h
    · cases h
  · cases h
theorem eD_cases {i : Nat} {o : Oper} {tm : List AV} {rows : List (Nat × Row)} {e : Eff} (h : eD P Γ rid ops tab i o tm rows = some e) : evOp P Γ (rid * 64 + i) o tm (visible rid (tab.getD i []) rows) some = some e ∨ e = { v := .undef } := by
  unfold eD at h
  split at h
  · exact .inl h
  · split at h
    · split at h
      · exact .inl h
      · cases h; exact .inr rfl
    · cases h; exact .inr rfl
    · cases h
theorem quiet_pure (hN : NatOK Γ) {i : Nat} {x y : Oper} {tm0 tm : List AV} {rows : List (Nat × Row)} {f : Eff} (hq : Quiet Γ ops tm0 x y) (h : eD P Γ rid ops tab i y tm rows = some f) : changes Γ y.op = false ∧ f.new = none ∧ f.imm = [] := by
  rcases hq with hq | ⟨_, _, _, ⟨ty, s, off, ho, _, _⟩, _⟩
  · exact ⟨changes_touches hq, (eD_shape hN h).2.1 hq⟩
  · refine ⟨by rw [ho]; rfl, ?_⟩
    rcases eD_cases h with h | rfl
    · exact load_eff ho h
    · exact ⟨rfl, rfl⟩
theorem store_look {i : Nat} {x : Oper} {tm0 tm : List AV} {rows : List (Nat × Row)} {e : Eff} {j id : Nat} (hfx : Fx ops tm0 tm) (hs : StoreAt ops tm0 x j) (h : eD P Γ rid ops tab i x tm rows = some e) (hne : id ≠ j) (rows' : List (Nat × Row)) : lookup (applyRows (rid * 64 + i) e rows') id = lookup rows' id := by
  obtain ⟨ty, t, z, off, ho, hf, hv⟩ := hs
  have hnil : ∀ x : Option Row, x.map (frz [] id) = x := fun x => by cases x <;> rfl
  rcases eD_cases h with h | rfl
  · obtain ⟨h1, h2, h3, h4, h5, h6, r, h7⟩ := store_eff ho (by rw [hfx t hf]; exact hv) h
    rw [lookup_apply _ _ h4 h5 h6, h1, h2, h3, h7]
    simp only [if_neg hne]
    exact hnil _
  · rw [lookup_apply _ _ rfl rfl rfl]
    exact hnil _
theorem stepD_fx {i : Nat} {tm0 : List AV} {st s : St} (hfx : Fx ops tm0 st.tm) (h : stepD P Γ rid ops tab i st = some s) : Fx ops tm0 s.tm := by
  cases ho : ops[i]? with
  | none => unfold stepD at h; simp only [ho] at h; cases h; exact hfx
  | some o =>
    rw [stepD_eq ho] at h
    cases he : eD P Γ rid ops tab i o st.tm st.rows with
    | none => rw [he] at h; cases h
    | some e =>
      simp only [he, Option.bind_some] at h
      split at h
      · cases h
        intro t ht
        show (putTm st.tm o.dst e.v).getD t .unk = _
        rw [getD_put (fixed_ne ht ho)]
        exact hfx t ht
      · cases h
/-- No edge orders them, and neither looks at what the other does. -/
structure Indep (Γ : Env) (rid : Nat) (ops : Array Oper) (tab : List (List Nat)) (tm0 : List AV) (i j : Nat) (x y : Oper) : Prop where
  ne : i ≠ j
  ilt : i < 64
  jlt : j < 64
  nij : i ∉ tab.getD j []
  nji : j ∉ tab.getD i []
  xy : ∀ d, x.dst = some d → d ∉ y.looksAt ops
  yx : ∀ d, y.dst = some d → d ∉ x.looksAt ops
  dd : ∀ d, x.dst = some d → y.dst ≠ some d
  c1 : changes Γ x.op = true → Quiet Γ ops tm0 x y
  c2 : changes Γ y.op = true → Quiet Γ ops tm0 y x
  rlt : rid < 67108864
theorem Indep.symm {tm0 : List AV} {i j : Nat} {x y : Oper} (h : Indep Γ rid ops tab tm0 i j x y) : Indep Γ rid ops tab tm0 j i y x :=
  ⟨h.ne.symm, h.jlt, h.ilt, h.nji, h.nij, h.yx, h.xy, fun d hd hx => h.dd d hx hd, h.c2, h.c1, h.rlt⟩

theorem ofReg_site {rid i : Nat} (hr : rid < 67108864) (hi : i < 64) : ofReg rid (rid * 64 + i) = true := by
  have h1 : (rid * 64 + i) % 4294967296 / 64 = rid := by omega
  have h2 : rid * 64 + i < PID := by show rid * 64 + i < 1125899906842624; omega
  unfold ofReg
  rw [h1]
  simp [Nat.blt_eq, h2]

theorem vis_core {i j : Nat} {e : Eff} {rows : List (Nat × Row)} (hr : rid < 67108864) (hi : i < 64) (hn : i ∉ tab.getD j []) (hs : e.mod = none ∧ e.del = none ∧ e.dels = [] ∧ e.mods = [] ∧ e.news = []) :
    coreEq (visible rid (tab.getD j []) (applyRows (rid * 64 + i) e rows)) (visible rid (tab.getD j []) rows) := by
  obtain ⟨hm, hd, e1, e2, e3⟩ := hs
  intro id
  rw [lookup_visible, lookup_visible]
  split
  · rename_i hv
    have hne : id ≠ rid * 64 + i := by
      rintro rfl
      have h2 : (rid * 64 + i) % 64 = i := by omega
      rw [ofReg_site hr hi, h2] at hv
      simp at hv
      exact hn (by simpa using hv)
    rw [lookup_apply _ _ e1 e2 e3]
    have hfz : ∀ x : Option Row, (x.map (frz e.imm id)).map Row.core = x.map Row.core := fun x => by
      cases x with
      | none => rfl
      | some r =>
        simp only [Option.map_some, Option.some.injEq, frz]
        split
        · exact freeze_freeze r
        · rfl
    cases e.new with
    | none => simp only [hm, hd]; exact hfz _
    | some r => simp only [hm, hd, if_neg hne]; exact hfz _
  · rfl

theorem apply_pure {site : Nat} {e : Eff} {rows : List (Nat × Row)} (hs : e.mod = none ∧ e.del = none ∧ e.dels = [] ∧ e.mods = [] ∧ e.news = []) (hn : e.new = none ∧ e.imm = []) (id : Nat) : lookup (applyRows site e rows) id = lookup rows id := by
  obtain ⟨hm, hd, e1, e2, e3⟩ := hs
  obtain ⟨hn, hi⟩ := hn
  rw [lookup_apply _ _ e1 e2 e3]
  simp only [hn, hm, hd, hi]
  cases lookup rows id <;> rfl

/-- The other's step does not change what this one does. -/
theorem eD_indep (hN : NatOK Γ) {tm0 : List AV} {i j : Nat} {x y : Oper} (h : Indep Γ rid ops tab tm0 i j x y) {e : Eff} {st : St} (hfx : Fx ops tm0 st.tm) (hee : eD P Γ rid ops tab i x st.tm st.rows = some e) :
    eD P Γ rid ops tab j y (putTm st.tm x.dst e.v) (applyRows (rid * 64 + i) e st.rows) = eD P Γ rid ops tab j y st.tm st.rows := by
  have he := eD_shape hN hee
  have hop : ∀ z ∈ y.op.operands.toList, ∀ t, z = Operand.tmp t → (putTm st.tm x.dst e.v).getD t .unk = st.tm.getD t .unk := fun z hz t ht => by
    refine getD_put fun hd => h.xy t hd ?_
    simp only [Oper.looksAt, List.mem_append, List.mem_filterMap]
    exact .inl ⟨z, hz, by rw [ht]⟩
  have hev : evOp P Γ (rid * 64 + j) y (putTm st.tm x.dst e.v) (visible rid (tab.getD j []) (applyRows (rid * 64 + i) e st.rows)) some = evOp P Γ (rid * 64 + j) y st.tm (visible rid (tab.getD j []) st.rows) some := by
    rw [evOp_tm y _ some hop]
    cases hty : touches Γ y.op with
    | false => exact evOp_free y hty st.tm some
    | true =>
      cases hcy : changes Γ y.op with
      | true =>
        obtain ⟨q1, q2⟩ := quiet_pure hN (h.c2 hcy) hee
        exact evOp_look (fun id => by rw [lookup_visible, lookup_visible, apply_pure (he.1 q1) q2]) y st.tm some
      | false =>
        cases hc : changes Γ x.op with
        | false => exact evOp_core (vis_core h.rlt h.ilt h.nij (he.1 hc)) y hcy st.tm some
        | true =>
          rcases h.c1 hc with hq | ⟨i', j', hne, ⟨ty, s, off, ho, hf, hv⟩, hs⟩
          · rw [hq] at hty; cases hty
          · exact load_dep ho (by rw [hfx s hf]; exact hv) (by rw [lookup_visible, lookup_visible, store_look hfx hs hee hne])
  have hg : ∀ g want, y.guard = some (g, want) → guardAt ops.toList (putTm st.tm x.dst e.v) g = guardAt ops.toList st.tm g := fun g want hgd => by
    unfold guardAt
    simp only [Array.getElem?_toList]
    cases hog : ops[g]? with
    | none => rfl
    | some og =>
      simp only
      cases hdg : og.dst with
      | none => rfl
      | some d =>
        simp only
        refine getD_put fun hd => h.xy d hd ?_
        simp [Oper.looksAt, hgd, hog, hdg]
  unfold eD
  rw [hev]
  cases hgd : y.guard with
  | none => rfl
  | some p =>
    obtain ⟨g, want⟩ := p
    simp only [hg g want hgd]

theorem put_comm {tm : List AV} {d d' : Option Tmp} {v v' : AV} (h : ∀ x, d = some x → d' ≠ some x) : putTm (putTm tm d v) d' v' = putTm (putTm tm d' v') d v := by
  cases d with
  | none => cases d' <;> rfl
  | some x =>
    cases d' with
    | none => rfl
    | some x' =>
      have hne : x ≠ x' := fun e => h x rfl (by rw [e])
      exact List.set_comm _ _ hne

theorem not_imm {i j : Nat} {e : Eff} {o : Oper} {rows : List (Nat × Row)} (he : Shape Γ o (visible rid (tab.getD i []) rows) e) (hr : rid < 67108864) (hj : j < 64) (hn : j ∉ tab.getD i []) : (rid * 64 + j) ∉ e.imm := by
  intro hm
  obtain ⟨r, hl⟩ := he.2.2 _ hm
  rw [lookup_visible] at hl
  split at hl
  · rename_i hv
    have h2 : (rid * 64 + j) % 64 = j := by omega
    rw [ofReg_site hr hj, h2] at hv
    simp at hv
    exact hn (by simpa using hv)
  · cases hl

theorem frz_comm (l l' : List Nat) (id : Nat) (r : Row) : frz l id (frz l' id r) = frz l' id (frz l id r) := by
  unfold frz
  split <;> split <;> rfl

theorem apply_comm (hN : NatOK Γ) {tm0 : List AV} {i j : Nat} {x y : Oper} (h : Indep Γ rid ops tab tm0 i j x y) {e f : Eff} {st : St} (hee : eD P Γ rid ops tab i x st.tm st.rows = some e) (hff : eD P Γ rid ops tab j y st.tm st.rows = some f) :
    Eqv (apply (rid * 64 + j) y.dst f (apply (rid * 64 + i) x.dst e st)) (apply (rid * 64 + i) x.dst e (apply (rid * 64 + j) y.dst f st)) := by
  have he := eD_shape hN hee
  have hf := eD_shape hN hff
  refine ⟨put_comm h.dd, fun id => ?_, fun id => ?_⟩
  · show lookup (applyRows _ f (applyRows _ e st.rows)) id = lookup (applyRows _ e (applyRows _ f st.rows)) id
    cases hcx : changes Γ x.op with
    | true =>
      obtain ⟨q1, q2⟩ := quiet_pure hN (h.c1 hcx) hff
      have hp : ∀ rows id, lookup (applyRows (rid * 64 + j) f rows) id = lookup rows id := fun rows id => apply_pure (hf.1 q1) q2 id
      rw [hp]
      exact (applyRows_look _ e (hp st.rows) id).symm
    | false =>
      cases hcy : changes Γ y.op with
      | true =>
        obtain ⟨q1, q2⟩ := quiet_pure hN (h.c2 hcy) hee
        have hp : ∀ rows id, lookup (applyRows (rid * 64 + i) e rows) id = lookup rows id := fun rows id => apply_pure (he.1 q1) q2 id
        rw [hp]
        exact applyRows_look _ f (hp st.rows) id
      | false =>
        obtain ⟨a1, a2, a3, a4, a5⟩ := he.1 hcx
        obtain ⟨b1, b2, b3, b4, b5⟩ := hf.1 hcy
        have hsj := not_imm he h.rlt h.jlt h.nji
        have hsi := not_imm hf h.rlt h.ilt h.nij
        have hne := h.ne
        rw [lookup_apply _ _ b3 b4 b5, lookup_apply _ e a3 a4 a5, lookup_apply _ e a3 a4 a5, lookup_apply _ f b3 b4 b5]
        simp only [a1, a2, b1, b2]
        have hi1 : ∀ r, frz f.imm (rid * 64 + i) r = r := fun r => by simp only [frz]; rw [if_neg (by simpa using hsi)]
        have hj1 : ∀ r, frz e.imm (rid * 64 + j) r = r := fun r => by simp only [frz]; rw [if_neg (by simpa using hsj)]
        have hmm : ∀ r : Option Row, (r.map (frz e.imm id)).map (frz f.imm id) = (r.map (frz f.imm id)).map (frz e.imm id) := fun r => by
          cases r with
          | none => rfl
          | some r => simp only [Option.map_some, frz_comm]
        by_cases e1 : id = rid * 64 + i
        · have e2 : id ≠ rid * 64 + j := by omega
          cases hen : e.new <;> cases hfn : f.new <;> simp only [if_neg e2, if_pos e1, hmm, Option.map_some] <;> (subst e1; rw [hi1])
        · by_cases e2 : id = rid * 64 + j
          · cases hen : e.new <;> cases hfn : f.new <;> simp only [if_neg e1, if_pos e2, hmm, Option.map_some] <;> (subst e2; rw [hj1])
          · cases hen : e.new <;> cases hfn : f.new <;> simp only [if_neg e1, if_neg e2, hmm]
  · simp only [apply, List.mem_append]
    cases e.new <;> cases f.new <;> simp only [List.mem_cons, List.mem_append]
    · constructor <;> (intro h; rcases h with h | h | h <;> simp [h])
    · constructor <;> (intro h; rcases h with h | h | h | h <;> simp [h])
    · constructor <;> (intro h; rcases h with h | h | h | h <;> simp [h])
    · constructor <;> (intro h; rcases h with h | h | h | h | h <;> simp [h])

theorem fresh_comm (hN : NatOK Γ) {tm0 : List AV} {i j : Nat} {x y : Oper} (h : Indep Γ rid ops tab tm0 i j x y) {e f : Eff} {st : St} {tm tm' : List AV} {rows rows' : List (Nat × Row)} (hee : eD P Γ rid ops tab i x tm rows = some e) (hff : eD P Γ rid ops tab j y tm' rows' = some f) : freshB (rid * 64 + j) f (apply (rid * 64 + i) x.dst e st).used = freshB (rid * 64 + j) f st.used := by
  have he := eD_shape hN hee
  have hf := eD_shape hN hff
  cases hcx : changes Γ x.op with
  | true =>
    obtain ⟨q1, q2⟩ := quiet_pure hN (h.c1 hcx) hff
    obtain ⟨_, _, _, _, f5⟩ := hf.1 q1
    simp only [freshB, f5, q2.1]
    rfl
  | false =>
    obtain ⟨_, _, _, _, e5⟩ := he.1 hcx
    cases hen : e.new with
    | none => simp only [apply, hen, e5, List.map_nil, List.nil_append]
    | some r' =>
      have hcy : changes Γ y.op = false := by
        cases hc : changes Γ y.op with
        | false => rfl
        | true => rw [(quiet_pure hN (h.c2 hc) hee).2.1] at hen; cases hen
      obtain ⟨_, _, _, _, f5⟩ := hf.1 hcy
      simp only [freshB, f5, apply, hen, e5, List.map_nil, List.nil_append]
      cases f.new with
      | none => rfl
      | some r =>
        have hne := h.ne
        have hcont : ((rid * 64 + i) :: st.used).contains (rid * 64 + j) = st.used.contains (rid * 64 + j) := by
          rw [Bool.eq_iff_iff]
          simp only [List.contains_cons, Bool.or_eq_true, beq_iff_eq]
          constructor
          · rintro (h | h)
            · omega
            · exact h
          · exact .inr
        simp only [hcont, List.all_nil]

theorem swap (hN : NatOK Γ) {tm0 : List AV} {i j : Nat} {x y : Oper} (hx : ops[i]? = some x) (hy : ops[j]? = some y) (h : Indep Γ rid ops tab tm0 i j x y) {st s1 s2 : St} (hfx : Fx ops tm0 st.tm) (h1 : stepD P Γ rid ops tab i st = some s1) (h2 : stepD P Γ rid ops tab j s1 = some s2) :
    ∃ t1 t2, stepD P Γ rid ops tab j st = some t1 ∧ stepD P Γ rid ops tab i t1 = some t2 ∧ Eqv s2 t2 := by
  rw [stepD_eq hx] at h1
  rw [stepD_eq hy] at h2
  cases he : eD P Γ rid ops tab i x st.tm st.rows with
  | none => rw [he] at h1; cases h1
  | some e =>
    simp only [he, Option.bind_some] at h1
    split at h1
    · rename_i hfe
      cases h1
      have hj : eD P Γ rid ops tab j y (apply (rid * 64 + i) x.dst e st).tm (apply (rid * 64 + i) x.dst e st).rows = eD P Γ rid ops tab j y st.tm st.rows := eD_indep hN h hfx he
      rw [hj] at h2
      cases hf : eD P Γ rid ops tab j y st.tm st.rows with
      | none => rw [hf] at h2; cases h2
      | some f =>
        simp only [hf, Option.bind_some, fresh_comm hN h he hf] at h2
        split at h2
        · rename_i hff
          cases h2
          have hi : eD P Γ rid ops tab i x (apply (rid * 64 + j) y.dst f st).tm (apply (rid * 64 + j) y.dst f st).rows = eD P Γ rid ops tab i x st.tm st.rows := eD_indep hN h.symm hfx hf
          refine ⟨apply (rid * 64 + j) y.dst f st, apply (rid * 64 + i) x.dst e (apply (rid * 64 + j) y.dst f st), ?_, ?_, apply_comm hN h he hf⟩
          · rw [stepD_eq hy]; simp only [hf, Option.bind_some, hff, if_true]
          · rw [stepD_eq hx, hi]; simp only [he, Option.bind_some, fresh_comm hN h.symm hf he, hfe, if_true]
        · cases h2
    · cases h1

theorem toFront (hN : NatOK Γ) {tm0 : List AV} {i : Nat} {x : Oper} (hx : ops[i]? = some x) : ∀ (l1 l2 : List Nat) (st f : St), Fx ops tm0 st.tm → (∀ j ∈ l1, ∃ y, ops[j]? = some y ∧ Indep Γ rid ops tab tm0 j i y x) → runL P Γ rid ops tab (l1 ++ i :: l2) st = some f →
    ∃ t f', stepD P Γ rid ops tab i st = some t ∧ runL P Γ rid ops tab (l1 ++ l2) t = some f' ∧ Eqv f f'
  | [], l2, st, f, _, _, h => by
    simp only [List.nil_append, runL] at h
    cases h1 : stepD P Γ rid ops tab i st with
    | none => rw [h1] at h; cases h
    | some t => rw [h1] at h; exact ⟨t, f, rfl, h, Eqv.refl f⟩
  | j :: l1, l2, st, f, hfx, hi, h => by
    simp only [List.cons_append, runL] at h
    cases h1 : stepD P Γ rid ops tab j st with
    | none => rw [h1] at h; cases h
    | some s1 =>
      rw [h1, Option.bind_some] at h
      obtain ⟨s2, f1, h2, h3, h4⟩ := toFront hN hx l1 l2 s1 f (stepD_fx hfx h1) (fun k hk => hi k (by simp [hk])) h
      obtain ⟨y, hy, hind⟩ := hi j (by simp)
      obtain ⟨t1, t2, h5, h6, h7⟩ := swap hN hy hx hind hfx h1 h2
      obtain ⟨f2, h8, h9⟩ := runL_eqv _ h7 h3
      exact ⟨t1, f2, h5, by simp only [List.cons_append, runL]; rw [h6, Option.bind_some]; exact h8, h4.trans h9⟩

end swap
end Go.Ev
