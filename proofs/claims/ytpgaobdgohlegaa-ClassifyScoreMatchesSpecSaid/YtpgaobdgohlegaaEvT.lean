/-
  A region in whatever order its edges allow. Last part.
-/
import Derived.Test.YtpgaobdgohlegaaEvS
namespace Go.Ev
open Go.RowKit

/-! ### The table of what comes before -/
theorem mem_union1 {l : List Nat} {x y : Nat} : y ∈ union1 l x ↔ y = x ∨ y ∈ l := by
  unfold union1
  split
  · rename_i h
    constructor
    · exact .inr
    · rintro (rfl | h')
      · simpa using h
      · exact h'
  · simp
theorem mem_foldl_union1 (ys : List Nat) : ∀ (s : List Nat) (y : Nat), y ∈ ys.foldl union1 s ↔ y ∈ ys ∨ y ∈ s := by
  induction ys with
  | nil => intro s y; simp
  | cons z zs ih =>
    intro s y
    simp only [List.foldl_cons, ih, mem_union1, List.mem_cons]
    constructor
    · rintro (h | h | h) <;> simp [h]
    · rintro ((h | h) | h) <;> simp [h]
theorem mem_anc (acc : List (List Nat)) (es : List Edge) : ∀ (s : List Nat) (y : Nat), y ∈ es.foldl (fun s e => if Region.binds .any e then (acc.getD e.on []).foldl union1 (union1 s e.on) else s) s →
    y ∈ s ∨ ∃ e ∈ es, Region.binds .any e = true ∧ (y = e.on ∨ y ∈ acc.getD e.on []) := by
  induction es with
  | nil => intro s y h; exact .inl h
  | cons e es ih =>
    intro s y h
    simp only [List.foldl_cons] at h
    rcases ih _ y h with h | ⟨e', he', h1, h2⟩
    · split at h
      · rename_i hb
        rw [mem_foldl_union1, mem_union1] at h
        rcases h with h | h | h
        · exact .inr ⟨e, by simp, hb, .inr h⟩
        · exact .inr ⟨e, by simp, hb, .inl h⟩
        · exact .inl h
      · exact .inl h
    · exact .inr ⟨e', by simp [he'], h1, h2⟩
theorem ancFrom_keep : ∀ (os : List Oper) (acc : List (List Nat)) (i : Nat), i < acc.length → (ancFrom os acc).getD i [] = acc.getD i []
  | [], acc, i, _ => rfl
  | o :: os, acc, i, h => by
    simp only [ancFrom]
    rw [ancFrom_keep os _ i (by simp; omega)]
    simp only [List.getD]
    rw [List.getElem?_append_left h]
theorem ancFrom_len : ∀ (os : List Oper) (acc : List (List Nat)), (ancFrom os acc).length = acc.length + os.length
  | [], acc => rfl
  | o :: os, acc => by simp only [ancFrom, ancFrom_len os, List.length_append, List.length_cons, List.length_nil]; omega
theorem ancFrom_spec : ∀ (os : List Oper) (acc : List (List Nat)) (j : Nat) (o : Oper) (y : Nat), acc.length ≤ j → os[j - acc.length]? = some o → y ∈ (ancFrom os acc).getD j [] →
    ∃ e ∈ o.after, Region.binds .any e = true ∧ (y = e.on ∨ y ∈ (ancFrom os acc).getD e.on [])
  | [], acc, j, o, y, _, h, _ => by simp at h
  | x :: os, acc, j, o, y, hj, ho, hy => by
    simp only [ancFrom] at hy ⊢
    by_cases e : j = acc.length
    · subst e
      simp only [Nat.sub_self, List.getElem?_cons_zero, Option.some.injEq] at ho
      subst ho
      rw [ancFrom_keep os _ acc.length (by simp)] at hy
      simp only [List.getD, List.getElem?_append_right (Nat.le_refl _), Nat.sub_self, List.getElem?_cons_zero, Option.getD_some] at hy
      rcases mem_anc acc x.after.toList [] y hy with h | ⟨e, he, h1, h2⟩
      · cases h
      · refine ⟨e, by simpa using he, h1, ?_⟩
        rcases h2 with h2 | h2
        · exact .inl h2
        · refine .inr ?_
          have hlt : e.on < acc.length := by
            rcases Nat.lt_or_ge e.on acc.length with h | h
            · exact h
            · simp [List.getD, List.getElem?_eq_none h] at h2
          rw [ancFrom_keep os _ e.on (by simp; omega)]
          simp only [List.getD, List.getElem?_append_left hlt]
          simpa [List.getD] using h2
    · have hj' : (acc ++ [x.after.toList.foldl (fun s e => if Region.binds .any e then (acc.getD e.on []).foldl union1 (union1 s e.on) else s) []]).length ≤ j := by
        simp only [List.length_append, List.length_cons, List.length_nil]; omega
      refine ancFrom_spec os _ j o y hj' ?_ hy
      have : j - acc.length = (j - (acc.length + 1)) + 1 := by omega
      rw [this, List.getElem?_cons_succ] at ho
      simpa using ho

theorem GOK.natOK {P : Program} {Γ : Env} (h : GOK P Γ) : NatOK Γ := ⟨h.snat, h.nat⟩
section draw
variable {P : Program} {Γ : Env} {rid : Nat} {ops : Array Oper}

theorem tab_spec {j y : Nat} {o : Oper} (ho : ops[j]? = some o) (hy : y ∈ (ancTab ops.toList).getD j []) : ∃ e ∈ o.after, Region.binds .any e = true ∧ (y = e.on ∨ y ∈ (ancTab ops.toList).getD e.on []) :=
  ancFrom_spec ops.toList [] j o y (Nat.zero_le _) (by simpa using ho) hy

theorem reg_edge {tm0 : List AV} (h : regOK Γ ops tm0 = true) {j : Nat} {o : Oper} (ho : ops[j]? = some o) : ∀ e ∈ o.after, Region.binds .any e = true → e.on < j := by
  intro e he hb
  have hlt := (Array.getElem?_eq_some_iff.1 ho).1
  simp only [regOK, List.all_eq_true, List.mem_range, Bool.and_eq_true] at h
  have h1 := (h j hlt).1
  rw [ho] at h1
  simp only [Option.map_some, Option.getD_some, Array.all_eq_true_iff_forall_mem, Bool.or_eq_true, Bool.not_eq_true'] at h1
  rcases h1 e he with h2 | h2
  · rw [hb] at h2; cases h2
  · exact Nat.le_of_ble_eq_true h2
theorem reg_pair {tm0 : List AV} (h : regOK Γ ops tm0 = true) {i j : Nat} {x y : Oper} (hx : ops[i]? = some x) (hy : ops[j]? = some y) (hij : i < j) (hn : i ∉ (ancTab ops.toList).getD j []) : pairOK Γ ops tm0 x y = true := by
  have hlt := (Array.getElem?_eq_some_iff.1 hy).1
  simp only [regOK, List.all_eq_true, List.mem_range, Bool.and_eq_true] at h
  have h1 := (h j hlt).2 i hij
  rw [hx, hy] at h1
  simp only [Bool.or_eq_true] at h1
  rcases h1 with h1 | h1
  · exact absurd (by simpa using h1) hn
  · exact h1
theorem tab_lt {tm0 : List AV} (h : regOK Γ ops tm0 = true) : ∀ (j y : Nat), j < ops.size → y ∈ (ancTab ops.toList).getD j [] → y < j := by
  intro j
  induction j using Nat.strongRecOn with
  | ind j ih =>
    intro y hj hy
    obtain ⟨e, he, hb, h2⟩ := tab_spec (Array.getElem?_eq_getElem hj) hy
    have hlt := reg_edge h (Array.getElem?_eq_getElem hj) e he hb
    rcases h2 with rfl | h2
    · exact hlt
    · exact Nat.lt_trans (ih e.on hlt y (by omega) h2) hlt

theorem sepT_spec {tm0 : List AV} {s t : Nat} (h : sepT ops tm0 s t = true) : fixedB ops s = true ∧ fixedB ops t = true ∧ ∃ i j oi oj, i ≠ j ∧ tm0.getD s .unk = .ptr i oi ∧ tm0.getD t .unk = .ptr j oj := by
  unfold sepT at h
  simp only [Bool.and_eq_true] at h
  obtain ⟨h1, h2, h3⟩ := h
  refine ⟨h1, h2, ?_⟩
  split at h3
  · rename_i i oi j oj e1 e2
    exact ⟨i, j, oi, oj, by simpa using h3, e1, e2⟩
  · cases h3
theorem pair_indep (hr : rid < 67108864) {tm0 : List AV} {i j : Nat} {x y : Oper} (hp : pairOK Γ ops tm0 x y = true) (hne : i ≠ j) (hi : i < 64) (hj : j < 64) (hij : i ∉ (ancTab ops.toList).getD j []) (hji : j ∉ (ancTab ops.toList).getD i []) : Indep Γ rid ops (ancTab ops.toList) tm0 i j x y := by
  simp only [pairOK, Bool.and_eq_true, Bool.or_eq_true, Bool.not_eq_true'] at hp
  obtain ⟨h1, h2⟩ := hp
  obtain ⟨a1, a2, a3⟩ := Oper.apart_spec h1
  rcases h2 with ⟨h2, h3⟩ | h2
  · refine ⟨hne, hi, hj, hij, hji, a1, a3, a2, fun hc => .inl ?_, fun hc => .inl ?_, hr⟩
    · rw [hc] at h2; simpa using h2
    · rw [hc] at h3; simpa using h3
  · unfold sepB at h2
    split at h2
    · rename_i ty s ty' t z ex ey
      obtain ⟨f1, f2, i', j', oi, oj, hn, e1, e2⟩ := sepT_spec h2
      exact ⟨hne, hi, hj, hij, hji, a1, a3, a2, fun hc => (by rw [ex] at hc; cases hc), fun _ => .inr ⟨i', j', hn, ⟨ty, s, oi, ex, f1, e1⟩, ⟨ty', t, z, oj, ey, f2, e2⟩⟩, hr⟩
    · rename_i ty t z ty' s ex ey
      obtain ⟨f1, f2, i', j', oi, oj, hn, e1, e2⟩ := sepT_spec h2
      exact ⟨hne, hi, hj, hij, hji, a1, a3, a2, fun _ => .inr ⟨i', j', hn, ⟨ty', s, oi, ey, f1, e1⟩, ⟨ty, t, z, oj, ex, f2, e2⟩⟩, fun hc => (by rw [ey] at hc; cases hc), hr⟩
    · cases h2

/-- One step of a region, wherever it comes. -/
theorem stepD_sound {w0 : World} {S0 : Nat → Prop} {B : Ctx} {Q : Exit → Act → World → Prop} {K : Act → World → Prop} {tab : List (List Nat)} (hΓ : GOK P Γ) {i : Nat} {st t : St} {a : Act} {w : World}
    (hs : stepD P Γ rid ops tab i st = some t) (hX : RelX w0 S0 B st a w) (hK : ∀ a' w', RelX w0 S0 B t a' w' → K a' w') : wpOp P ops Q i K a w := by
  unfold wpOp
  unfold stepD at hs
  cases ho : ops[i]? with
  | none => simp only [ho] at hs; cases hs; exact hK a w hX
  | some o =>
    simp only [ho] at hs ⊢
    obtain ⟨S, β, og, hR, hO⟩ := hX
    have run : runAt P Γ rid tab i o st = some t → o.wp P a w K Q := fun hr => by
      unfold runAt at hr
      cases he : evOp P Γ (rid * 64 + i) o st.tm (visible rid (tab.getD i []) st.rows) some with
      | none => rw [he] at hr; cases hr
      | some e =>
        simp only [he, Option.bind_some] at hr
        split at hr
        · rename_i hf
          cases hr
          refine evOp_sound hΓ hR hO (fun id x hx => ?_) (fun e' he' => ?_) he (fun e' a' w' he' hx => ?_)
          · rw [lookup_visible] at hx
            split at hx
            · exact hx
            · cases hx
          · cases he'; exact hf
          · cases he'; exact hK a' w' hx
        · cases hr
    have skip : skipAt o st = t → K (a.put o.dst undef) w := fun hr => by
      subst hr
      exact hK _ _ ⟨S, β, og, hR.put o.dst (.undef _), hO⟩
    cases hg : o.guard with
    | none =>
      simp only [hg] at hs
      simp only [Region.wanted, hg, if_true]
      exact .inl (run hs)
    | some p =>
      obtain ⟨j, want⟩ := p
      simp only [hg] at hs
      obtain ⟨hgb, hgu⟩ := guard_at hR.tm ops j
      simp only [Region.wanted, hg]
      split at hs
      · rename_i b hb
        rw [hgb b hb]
        split at hs
        · rename_i hbw
          have hbe : b = want := by simpa using hbw
          simp only [hbe, beq_self_eq_true, if_true]
          exact .inl (run hs)
        · rename_i hbw
          have hbe : ¬ (some b == some want) = true := by simpa using hbw
          rw [if_neg hbe]
          exact skip (by simpa using hs)
      · rename_i hb
        rw [hgu hb]
        have : ¬ ((none : Option Bool) == some want) = true := by simp
        rw [if_neg this]
        exact skip (by simpa using hs)
      · cases hs

theorem VRels.world {w w' : World} {S : Nat → Prop} {β : Bet} {cs : List AV} {vs : List Value} (h : VRels w S β cs vs) (hh : w'.heap = w.heap) : VRels w' S β cs vs :=
  h.mono (fun _ h => h) (fun b _ => by rw [hh]) (fun _ _ h => h)
theorem RelX.world {w0 : World} {S0 : Nat → Prop} {B : Ctx} {st : St} {a : Act} {w w' : World} (h : RelX w0 S0 B st a w) (hh : w'.heap = w.heap) (ho : w'.os = w.os) (ht : w'.tape = w.tape) (hp : w'.output = w.output) : RelX w0 S0 B st a w' := by
  obtain ⟨S, β, og, hR, hO⟩ := h
  refine ⟨S, β, og, ⟨hR.tm.world hh, hR.df, fun id r hr => ?_, hR.inj, fun id g hg => by rw [hh]; exact hR.lt id g hg, hR.used, hR.one, fun b hb => by rw [hh]; exact hR.Slt b hb, by rw [hh]; exact hR.Ble, hR.pid⟩, ⟨⟨ho.trans hO.bel.os, ht.trans hO.bel.tape, hp.trans hO.bel.output, by rw [hh]; exact hO.bel.size, fun k hk => by rw [hh]; exact hO.bel.block k hk⟩, hO.sin, hO.sub⟩⟩
  exact (hR.row id r hr).keep (fun _ _ h => h) (fun _ h => h) (fun _ _ h => h) (fun b _ => by rw [hh]) (fun b _ => by rw [hh])

def rem (listed : Array Bool) (n : Nat) : List Nat := (List.range n).filter fun i => !listed.getD i true

theorem mem_rem {listed : Array Bool} {n i : Nat} : i ∈ rem listed n ↔ i < n ∧ listed.getD i true = false := by
  simp only [rem, List.mem_filter, List.mem_range, Bool.not_eq_true']

theorem rem_split {listed : Array Bool} {n i : Nat} (hs : listed.size = n) (hi : i < n) (hu : listed.getD i true = false) :
    ∃ l1 l2, rem listed n = l1 ++ i :: l2 ∧ rem (listed.setIfInBounds i true) n = l1 ++ l2 ∧ ∀ j ∈ l1, j < i ∧ listed.getD j true = false := by
  have hr : List.range n = List.range i ++ i :: List.range' (i + 1) (n - i - 1) := by
    rw [List.range_eq_range', List.range_eq_range']
    have : n = i + (1 + (n - i - 1)) := by omega
    conv => lhs; rw [this]
    rw [← List.range'_append_1, Nat.zero_add, ← List.range'_append_1]
    rfl
  have hsame : ∀ (l : List Nat), (∀ j ∈ l, j ≠ i) → l.filter (fun j => !(listed.setIfInBounds i true).getD j true) = l.filter (fun j => !listed.getD j true) := fun l hl =>
    List.filter_congr fun j hj => by rw [getD_set_ne true (Ne.symm (hl j hj))]
  refine ⟨(List.range i).filter fun j => !listed.getD j true, (List.range' (i + 1) (n - i - 1)).filter fun j => !listed.getD j true, ?_, ?_, fun j hj => ?_⟩
  · unfold rem
    rw [hr, List.filter_append, List.filter_cons, if_pos (by rw [hu]; rfl)]
  · unfold rem
    have hset : (listed.setIfInBounds i true).getD i true = true := by
      have : i < listed.size := by omega
      simp [this]
    rw [hr, List.filter_append, List.filter_cons, if_neg (by rw [hset]; simp), hsame, hsame]
    · intro j hj
      simp only [List.mem_range'_1] at hj
      omega
    · intro j hj
      simp only [List.mem_range] at hj
      omega
  · simp only [List.mem_filter, List.mem_range, Bool.not_eq_true'] at hj
    exact hj

theorem getD_tf {listed : Array Bool} {i : Nat} (h : listed.getD i false = true) : listed.getD i true = true := by
  rcases Nat.lt_or_ge i listed.size with h' | h'
  · simp [h'] at h ⊢; exact h
  · simp [Array.getElem?_eq_none h'] at h

theorem getD_ft {listed : Array Bool} {i : Nat} (hi : i < listed.size) (h : listed.getD i true = true) : listed.getD i false = true := by
  simp [hi] at h ⊢; exact h

theorem wpAny_of (hr : rid < 67108864) {w0 : World} {S0 : Nat → Prop} {B : Ctx} {Q : Exit → Act → World → Prop} (hΓ : GOK P Γ) {tm0 : List AV} (hok : regOK Γ ops tm0 = true) (hsz : ops.size ≤ 64) {fin : St} (hQ : ∀ a w, RelX w0 S0 B fin a w → Q .normal a w) :
    ∀ (fuel : Nat) (listed : Array Bool) (st f : St) (a : Act) (w : World), Fx ops tm0 st.tm → listed.size = ops.size → (rem listed ops.size).length ≤ fuel →
      (∀ j, j < ops.size → listed.getD j false = true → ∀ y ∈ (ancTab ops.toList).getD j [], listed.getD y false = true) →
      runL P Γ rid ops (ancTab ops.toList) (rem listed ops.size) st = some f → Eqv fin f → RelX w0 S0 B st a w → wpAny P .any ops Q fuel listed a w := by
  have done : ∀ (listed : Array Bool) (st f : St) (a : Act) (w : World), listed.size = ops.size → Region.ready .any ops listed = [] →
      runL P Γ rid ops (ancTab ops.toList) (rem listed ops.size) st = some f → Eqv fin f → RelX w0 S0 B st a w → Q .normal a w := by
    intro listed st f a w hls hr hrun hE hX
    have hnil : rem listed ops.size = [] := by
      by_cases hne : rem listed ops.size = []
      · exact hne
      · exfalso
        have hex : ∃ i, i < ops.size ∧ listed.getD i true = false := by
          obtain ⟨i, hi⟩ := List.exists_mem_of_ne_nil _ hne
          exact ⟨i, mem_rem.1 hi⟩
        have key : ∀ i, i < ops.size → listed.getD i true = false → False := by
          intro i
          induction i using Nat.strongRecOn with
          | ind i ih =>
            intro hi hu
            have : i ∈ Region.ready .any ops listed := mem_ready.2 ⟨hu, _, Array.getElem?_eq_getElem hi, fun e he hb => by
              have hlt := reg_edge hok (Array.getElem?_eq_getElem hi) e he hb
              cases hc : listed.getD e.on true with
              | true => exact getD_ft (by omega) hc
              | false => exact (ih e.on hlt (by omega) hc).elim⟩
            rw [hr] at this
            cases this
        obtain ⟨i, h1, h2⟩ := hex
        exact key i h1 h2
    rw [hnil] at hrun
    simp only [runL, Option.some.injEq] at hrun
    subst hrun
    exact hQ a w (hX.eqv hE.symm)
  intro fuel
  induction fuel with
  | zero =>
    intro listed st f a w hfx hls hlen hcl hrun hE hX
    have hnil : rem listed ops.size = [] := List.eq_nil_of_length_eq_zero (by omega)
    have hr : Region.ready .any ops listed = [] := by
      refine List.eq_nil_iff_forall_not_mem.2 fun i hi => ?_
      obtain ⟨hu, o, ho, _⟩ := mem_ready.1 hi
      have : i ∈ rem listed ops.size := mem_rem.2 ⟨(Array.getElem?_eq_some_iff.1 ho).1, hu⟩
      rw [hnil] at this
      cases this
    exact ⟨hr, done listed st f a w hls hr hrun hE hX⟩
  | succ fuel ih =>
    intro listed st f a w hfx hls hlen hcl hrun hE hX
    refine ⟨fun hr => done listed st f a w hls hr hrun hE hX, fun i hi => ?_⟩
    obtain ⟨hu, o, ho, hall⟩ := mem_ready.1 hi
    have hin := (Array.getElem?_eq_some_iff.1 ho).1
    obtain ⟨l1, l2, hs1, hs2, hl1⟩ := rem_split hls hin hu
    have hbef : ∀ y ∈ (ancTab ops.toList).getD i [], listed.getD y false = true := fun y hy => by
      obtain ⟨e, he, hb, h2⟩ := tab_spec ho hy
      have hlt := reg_edge hok ho e he hb
      have h3 := hall e he hb
      rcases h2 with rfl | h2
      · exact h3
      · exact hcl e.on (by omega) h3 y h2
    rw [hs1] at hrun
    obtain ⟨t, f', h1, h2, h3⟩ := toFront hΓ.natOK (tm0 := tm0) ho l1 l2 st f hfx (fun j hj => by
      obtain ⟨hji, hju⟩ := hl1 j hj
      have hjn : j < ops.size := by omega
      have hn : j ∉ (ancTab ops.toList).getD i [] := fun hm => by
        have := getD_tf (hbef j hm)
        rw [hju] at this
        cases this
      have hn' : i ∉ (ancTab ops.toList).getD j [] := fun hm => by
        have := tab_lt hok j i hjn hm
        omega
      exact ⟨ops[j], Array.getElem?_eq_getElem hjn, pair_indep hr (reg_pair hok (Array.getElem?_eq_getElem hjn) ho hji hn) (by omega) (by omega) (by omega) hn hn'⟩) hrun
    refine stepD_sound hΓ h1 hX fun a' w' hX' => ?_
    refine ih (listed.setIfInBounds i true) t f' a' w' (stepD_fx hfx h1) (by simpa using hls) ?_ ?_ (by rw [hs2]; exact h2) (hE.trans h3) hX'
    · have : (rem listed ops.size).length = (l1 ++ l2).length + 1 := by rw [hs1]; simp; omega
      rw [hs2]
      omega
    · intro j hj hlj y hy
      by_cases hji : i = j
      · subst hji
        exact getD_set_true (hbef y hy)
      · rw [getD_set_ne false hji] at hlj
        exact getD_set_true (hcl j hj hlj y hy)

theorem rem_none (n : Nat) : rem (Array.replicate n false) n = List.range' 0 n := by
  unfold rem
  rw [List.range_eq_range', List.filter_eq_self]
  intro i hi
  simp only [List.mem_range'_1] at hi
  have : i < n := by omega
  simp [this]

theorem drawOK (hΓ : GOK P Γ) (hm : P.follows .mixedOrders = true) : DrawOK P Γ := by
  intro ρ w0 S0 B id ops k r st a w Q hsz hok hid h hX hk
  obtain ⟨fin, h1, h2⟩ := evOps_runL hΓ.natOK (tab := ancTab ops.toList) (ops := ops) ops.toList 0 st (fun j => by simp) h
  refine wp_region_any hm ?_
  refine wpAny_of (rid := id) hid hΓ hok hsz (fin := fin) (fun a w hX' => hk fin a w h2 hX') ops.size _ st fin a _ (fun _ _ => rfl) (by simp) (by rw [rem_none]; simp) (fun j hj hl => ?_) ?_ (Eqv.refl _) (hX.world rfl rfl rfl rfl)
  · simp [hj] at hl
  · rw [rem_none]
    simpa using h1
end draw
end Go.Ev
