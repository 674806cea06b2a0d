/-
  A function that hands back a new array: one of its elements may be held apart.
-/
import Derived.Test.YtghinideddfcpaaDoorEvS
import Derived.WalkKit
import Derived.ProofKit
import Derived.OpenShut
import Derived.Below
import Derived.Carry
import Derived.ChangeSame
import Derived.JoinedCond
import Derived.WideKeyArgs
import Derived.Lib.Bytealg
import Derived.Lib.Overlaps
import Derived.Test.YtghinideddfcpaaDoorChecked
import Derived.KernelRfl
/-
  A region in whatever order its edges allow. Last part.
-/
namespace Go.Ev
open Go.RowKit

/-! ### The table of what comes before -/
theorem mem_union1 {l : List Nat} {x y : Nat} : y ∈ union1 l x ↔ y = x ∨ y ∈ l := by
  unfold union1
  split
  · rename_i h
    constructor
    · exact .inr
    · rintro (rfl | h')
      · simpa using h
      · exact h'
  · simp
theorem mem_foldl_union1 (ys : List Nat) : ∀ (s : List Nat) (y : Nat), y ∈ ys.foldl union1 s ↔ y ∈ ys ∨ y ∈ s := by
  induction ys with
  | nil => intro s y; simp
  | cons z zs ih =>
    intro s y
    simp only [List.foldl_cons, ih, mem_union1, List.mem_cons]
    constructor
    · rintro (h | h | h) <;> simp [h]
    · rintro ((h | h) | h) <;> simp [h]
theorem mem_anc (acc : List (List Nat)) (es : List Edge) : ∀ (s : List Nat) (y : Nat), y ∈ es.foldl (fun s e => if Region.binds .any e then (acc.getD e.on []).foldl union1 (union1 s e.on) else s) s →
    y ∈ s ∨ ∃ e ∈ es, Region.binds .any e = true ∧ (y = e.on ∨ y ∈ acc.getD e.on []) := by
  induction es with
  | nil => intro s y h; exact .inl h
  | cons e es ih =>
    intro s y h
    simp only [List.foldl_cons] at h
    rcases ih _ y h with h | ⟨e', he', h1, h2⟩
    · split at h
      · rename_i hb
        rw [mem_foldl_union1, mem_union1] at h
        rcases h with h | h | h
        · exact .inr ⟨e, by simp, hb, .inr h⟩
        · exact .inr ⟨e, by simp, hb, .inl h⟩
        · exact .inl h
      · exact .inl h
    · exact .inr ⟨e', by simp [he'], h1, h2⟩
theorem ancFrom_keep : ∀ (os : List Oper) (acc : List (List Nat)) (i : Nat), i < acc.length → (ancFrom os acc).getD i [] = acc.getD i []
  | [], acc, i, _ => rfl
  | o :: os, acc, i, h => by
    simp only [ancFrom]
    rw [ancFrom_keep os _ i (by simp; omega)]
    simp only [List.getD]
    rw [List.getElem?_append_left h]
theorem ancFrom_len : ∀ (os : List Oper) (acc : List (List Nat)), (ancFrom os acc).length = acc.length + os.length
  | [], acc => rfl
  | o :: os, acc => by simp only [ancFrom, ancFrom_len os, List.length_append, List.length_cons, List.length_nil]; omega
theorem ancFrom_spec : ∀ (os : List Oper) (acc : List (List Nat)) (j : Nat) (o : Oper) (y : Nat), acc.length ≤ j → os[j - acc.length]? = some o → y ∈ (ancFrom os acc).getD j [] →
    ∃ e ∈ o.after, Region.binds .any e = true ∧ (y = e.on ∨ y ∈ (ancFrom os acc).getD e.on [])
  | [], acc, j, o, y, _, h, _ => by simp at h
  | x :: os, acc, j, o, y, hj, ho, hy => by
    simp only [ancFrom] at hy ⊢
    by_cases e : j = acc.length
    · subst e
      simp only [Nat.sub_self, List.getElem?_cons_zero, Option.some.injEq] at ho
      subst ho
      rw [ancFrom_keep os _ acc.length (by simp)] at hy
      simp only [List.getD, List.getElem?_append_right (Nat.le_refl _), Nat.sub_self, List.getElem?_cons_zero, Option.getD_some] at hy
      rcases mem_anc acc x.after.toList [] y hy with h | ⟨e, he, h1, h2⟩
      · cases h
      · refine ⟨e, by simpa using he, h1, ?_⟩
        rcases h2 with h2 | h2
        · exact .inl h2
        · refine .inr ?_
          have hlt : e.on < acc.length := by
            rcases Nat.lt_or_ge e.on acc.length with h | h
            · exact h
            · simp [List.getD, List.getElem?_eq_none h] at h2
          rw [ancFrom_keep os _ e.on (by simp; omega)]
          simp only [List.getD, List.getElem?_append_left hlt]
          simpa [List.getD] using h2
    · have hj' : (acc ++ [x.after.toList.foldl (fun s e => if Region.binds .any e then (acc.getD e.on []).foldl union1 (union1 s e.on) else s) []]).length ≤ j := by
        simp only [List.length_append, List.length_cons, List.length_nil]; omega
      refine ancFrom_spec os _ j o y hj' ?_ hy
      have : j - acc.length = (j - (acc.length + 1)) + 1 := by omega
      rw [this, List.getElem?_cons_succ] at ho
      simpa using ho

theorem GOK.natOK {P : Program} {Γ : Env} (h : GOK P Γ) : NatOK Γ := ⟨h.snat, h.nat, fun key np F hF => (h.yld key np F hF).2.2⟩
section draw
variable {R : Option Nat} {P : Program} {Γ : Env} {rid : Nat} {ops : Array Oper}

theorem tab_spec {j y : Nat} {o : Oper} (ho : ops[j]? = some o) (hy : y ∈ (ancTab ops.toList).getD j []) : ∃ e ∈ o.after, Region.binds .any e = true ∧ (y = e.on ∨ y ∈ (ancTab ops.toList).getD e.on []) :=
  ancFrom_spec ops.toList [] j o y (Nat.zero_le _) (by simpa using ho) hy

theorem reg_edge {tm0 : List AV} (h : regOK Γ ops tm0 = true) {j : Nat} {o : Oper} (ho : ops[j]? = some o) : ∀ e ∈ o.after, Region.binds .any e = true → e.on < j := by
  intro e he hb
  have hlt := (Array.getElem?_eq_some_iff.1 ho).1
  simp only [regOK, List.all_eq_true, List.mem_range, Bool.and_eq_true] at h
  have h1 := (h j hlt).1
  rw [ho] at h1
  simp only [Option.map_some, Option.getD_some, Array.all_eq_true_iff_forall_mem, Bool.or_eq_true, Bool.not_eq_true'] at h1
  rcases h1 e he with h2 | h2
  · rw [hb] at h2; cases h2
  · exact Nat.le_of_ble_eq_true h2
theorem reg_pair {tm0 : List AV} (h : regOK Γ ops tm0 = true) {i j : Nat} {x y : Oper} (hx : ops[i]? = some x) (hy : ops[j]? = some y) (hij : i < j) (hn : i ∉ (ancTab ops.toList).getD j []) : pairOK Γ ops tm0 ((ancTab ops.toList).getD i []) ((ancTab ops.toList).getD j []) x y = true := by
  have hlt := (Array.getElem?_eq_some_iff.1 hy).1
  simp only [regOK, List.all_eq_true, List.mem_range, Bool.and_eq_true] at h
  have h1 := (h j hlt).2 i hij
  rw [hx, hy] at h1
  simp only [Bool.or_eq_true] at h1
  rcases h1 with h1 | h1
  · exact absurd (by simpa using h1) hn
  · exact h1
theorem tab_lt {tm0 : List AV} (h : regOK Γ ops tm0 = true) : ∀ (j y : Nat), j < ops.size → y ∈ (ancTab ops.toList).getD j [] → y < j := by
  intro j
  induction j using Nat.strongRecOn with
  | ind j ih =>
    intro y hj hy
    obtain ⟨e, he, hb, h2⟩ := tab_spec (Array.getElem?_eq_getElem hj) hy
    have hlt := reg_edge h (Array.getElem?_eq_getElem hj) e he hb
    rcases h2 with rfl | h2
    · exact hlt
    · exact Nat.lt_trans (ih e.on hlt y (by omega) h2) hlt

theorem sepT_spec {tm0 : List AV} {s t : Nat} (h : sepT ops tm0 s t = true) : fixedB ops s = true ∧ fixedB ops t = true ∧ ∃ i j oi oj, i ≠ j ∧ tm0.getD s .unk = .ptr i oi ∧ tm0.getD t .unk = .ptr j oj := by
  unfold sepT at h
  simp only [Bool.and_eq_true] at h
  obtain ⟨h1, h2, h3⟩ := h
  refine ⟨h1, h2, ?_⟩
  split at h3
  · rename_i i oi j oj e1 e2
    exact ⟨i, j, oi, oj, by simpa using h3, e1, e2⟩
  · cases h3
theorem pair_indep (hr : rid < 67108864) {tm0 : List AV} {i j : Nat} {x y : Oper} (hp : pairOK Γ ops tm0 ((ancTab ops.toList).getD i []) ((ancTab ops.toList).getD j []) x y = true) (hne : i ≠ j) (hi : i < 64) (hj : j < 64) (hij : i ∉ (ancTab ops.toList).getD j []) (hji : j ∉ (ancTab ops.toList).getD i []) : Indep Γ rid ops (ancTab ops.toList) tm0 i j x y := by
  simp only [pairOK, Bool.and_eq_true, Bool.or_eq_true, Bool.not_eq_true'] at hp
  obtain ⟨h1, h2⟩ := hp
  obtain ⟨a1, a2, a3⟩ := Oper.apart_spec h1
  refine ⟨hne, hi, hj, hij, hji, a1, a3, a2, ?_, hr⟩
  rcases h2 with (⟨h2, h3⟩ | h2) | (h2 | h2)
  · refine .old (fun hc => .inl ?_) fun hc => .inl ?_
    · rw [hc] at h2; simpa using h2
    · rw [hc] at h3; simpa using h3
  · unfold sepB at h2
    split at h2
    · rename_i ty s ty' t z ex ey
      obtain ⟨f1, f2, i', j', oi, oj, hn, e1, e2⟩ := sepT_spec h2
      exact .old (fun hc => (by rw [ex] at hc; cases hc)) fun _ => .inr (.inl ⟨i', j', hn, ⟨ty, s, oi, ex, f1, e1⟩, ⟨ty', t, z, oj, ey, f2, e2⟩⟩)
    · rename_i ty t z ty' s ex ey
      obtain ⟨f1, f2, i', j', oi, oj, hn, e1, e2⟩ := sepT_spec h2
      exact .old (fun _ => .inr (.inl ⟨i', j', hn, ⟨ty', s, oi, ey, f1, e1⟩, ⟨ty, t, z, oj, ex, f2, e2⟩⟩)) fun hc => (by rw [ey] at hc; cases hc)
    · rename_i ty s args ts ex ey
      exact .old (fun hc => (by rw [ex] at hc; cases hc)) fun _ => .inr (.inr ⟨⟨ty, s, ex, h2⟩, ⟨args, ts, ey⟩⟩)
    · rename_i args ts ty s ex ey
      exact .old (fun _ => .inr (.inr ⟨⟨ty, s, ey, h2⟩, ⟨args, ts, ex⟩⟩)) fun hc => (by rw [ey] at hc; cases hc)
    · cases h2
  · simp only [sepM, Bool.and_eq_true, Bool.or_eq_true] at h2
    rcases h2 with ⟨h2, h3⟩ | ⟨h2, h3⟩
    · exact .made1 h2 h3
    · exact .made2 h2 h3
  · simp only [sepL, Bool.and_eq_true, Bool.or_eq_true, Bool.not_eq_true'] at h2
    obtain ⟨h2, h3⟩ := h2
    refine .loc (fun hc => ?_) fun hc => ?_
    · rw [hc] at h2; simpa using h2
    · rw [hc] at h3; simpa using h3

/-- One step of a region, wherever it comes. -/
theorem stepD_sound {w0 : World} {S0 : Nat → Prop} {B : Ctx} {Q : Exit → Act → World → Prop} {K : Act → World → Prop} {tab : List (List Nat)} (hΓ : GOK P Γ) {i : Nat} {st t : St} {a : Act} {w : World}
    (hs : stepD P Γ rid ops tab i st = some t) (hX : RelX w0 S0 B st a w) (hK : ∀ a' w', RelX w0 S0 B t a' w' → K a' w') : wpOpIn (fen R) 0 P ops Q i K a w := by
  unfold wpOpIn
  unfold stepD at hs
  cases ho : ops[i]? with
  | none => simp only [ho] at hs; cases hs; exact hK a w hX
  | some o =>
    simp only [ho] at hs ⊢
    obtain ⟨S, β, og, hR, hO⟩ := hX
    have run : runAt P Γ rid tab i o st = some t → o.wpR R P a w K Q := fun hr => by
      unfold runAt at hr
      cases he : evOp P Γ (rid * 64 + i) o st.tm (visible rid (tab.getD i []) st.rows) some with
      | none => rw [he] at hr; cases hr
      | some e =>
        simp only [he, Option.bind_some] at hr
        split at hr
        · rename_i hf
          cases hr
          refine evOp_sound hΓ hR hO (fun id x hx => ?_) (fun e' he' => ?_) he (fun e' a' w' he' hx => ?_)
          · rw [lookup_visible] at hx
            split at hx
            · exact hx
            · cases hx
          · cases he'; exact hf
          · cases he'; exact hK a' w' hx
        · cases hr
    have skip : skipAt o st = t → K (a.put o.dst undef) w := fun hr => by
      subst hr
      exact hK _ _ ⟨S, β, og, hR.put o.dst (.undef _), hO⟩
    cases hg : o.guard with
    | none =>
      simp only [hg] at hs
      simp only [Region.wanted, hg, if_true]
      exact run hs
    | some p =>
      obtain ⟨j, want⟩ := p
      simp only [hg] at hs
      obtain ⟨hgb, hgu⟩ := guard_at hR.tm ops j
      simp only [Region.wanted, hg]
      split at hs
      · rename_i b hb
        rw [hgb b hb]
        split at hs
        · rename_i hbw
          have hbe : b = want := by simpa using hbw
          simp only [hbe, beq_self_eq_true, if_true]
          exact run hs
        · rename_i hbw
          have hbe : ¬ (some b == some want) = true := by simpa using hbw
          rw [if_neg hbe]
          exact ⟨fun _ _ => trivial, skip (by simpa using hs)⟩
      · rename_i hb
        rw [hgu hb]
        have : ¬ ((none : Option Bool) == some want) = true := by simp
        rw [if_neg this]
        exact ⟨fun _ _ => trivial, skip (by simpa using hs)⟩
      · cases hs

theorem VRels.world {w w' : World} {S : Nat → Prop} {β : Bet} {cs : List AV} {vs : List Value} (h : VRels w S β cs vs) (hh : w'.heap = w.heap) : VRels w' S β cs vs :=
  h.mono (fun _ h => h) (fun b _ => by rw [hh]) (fun _ _ h => h)
theorem RelX.world {w0 : World} {S0 : Nat → Prop} {B : Ctx} {st : St} {a : Act} {w w' : World} (h : RelX w0 S0 B st a w) (hh : w'.heap = w.heap) (ho : w'.os = w.os) (ht : w'.tape = w.tape) (hp : w'.output = w.output) : RelX w0 S0 B st a w' := by
  obtain ⟨S, β, og, hR, hO⟩ := h
  refine ⟨S, β, og, ⟨hR.tm.world hh, hR.df, fun id r hr => ?_, hR.inj, fun id g hg => by rw [hh]; exact hR.lt id g hg, hR.used, hR.one, fun b hb => by rw [hh]; exact hR.Slt b hb, by rw [hh]; exact hR.Ble, hR.pid⟩, ⟨⟨⟨ho.trans hO.bel.os, ht.trans hO.bel.tape, hp.trans hO.bel.output, by rw [hh]; exact hO.bel.size, fun k hk => by rw [hh]; exact hO.bel.block k hk⟩, hO.bel.glb⟩, hO.sin, hO.sub⟩⟩
  exact (hR.row id r hr).keep (fun _ _ h => h) (fun _ h => h) (fun _ _ h => h) (fun b _ => by rw [hh]) (fun b _ => by rw [hh])

def rem (listed : Array Bool) (n : Nat) : List Nat := (List.range n).filter fun i => !listed.getD i true

theorem mem_rem {listed : Array Bool} {n i : Nat} : i ∈ rem listed n ↔ i < n ∧ listed.getD i true = false := by
  simp only [rem, List.mem_filter, List.mem_range, Bool.not_eq_true']

theorem rem_split {listed : Array Bool} {n i : Nat} (hs : listed.size = n) (hi : i < n) (hu : listed.getD i true = false) :
    ∃ l1 l2, rem listed n = l1 ++ i :: l2 ∧ rem (listed.setIfInBounds i true) n = l1 ++ l2 ∧ ∀ j ∈ l1, j < i ∧ listed.getD j true = false := by
  have hr : List.range n = List.range i ++ i :: List.range' (i + 1) (n - i - 1) := by
    rw [List.range_eq_range', List.range_eq_range']
    have : n = i + (1 + (n - i - 1)) := by omega
    conv => lhs; rw [this]
    rw [← List.range'_append_1, Nat.zero_add, ← List.range'_append_1]
    rfl
  have hsame : ∀ (l : List Nat), (∀ j ∈ l, j ≠ i) → l.filter (fun j => !(listed.setIfInBounds i true).getD j true) = l.filter (fun j => !listed.getD j true) := fun l hl =>
    List.filter_congr fun j hj => by rw [getD_set_ne true (Ne.symm (hl j hj))]
  refine ⟨(List.range i).filter fun j => !listed.getD j true, (List.range' (i + 1) (n - i - 1)).filter fun j => !listed.getD j true, ?_, ?_, fun j hj => ?_⟩
  · unfold rem
    rw [hr, List.filter_append, List.filter_cons, if_pos (by rw [hu]; rfl)]
  · unfold rem
    have hset : (listed.setIfInBounds i true).getD i true = true := by
      have : i < listed.size := by omega
      simp [this]
    rw [hr, List.filter_append, List.filter_cons, if_neg (by rw [hset]; simp), hsame, hsame]
    · intro j hj
      simp only [List.mem_range'_1] at hj
      omega
    · intro j hj
      simp only [List.mem_range] at hj
      omega
  · simp only [List.mem_filter, List.mem_range, Bool.not_eq_true'] at hj
    exact hj

theorem getD_tf {listed : Array Bool} {i : Nat} (h : listed.getD i false = true) : listed.getD i true = true := by
  rcases Nat.lt_or_ge i listed.size with h' | h'
  · simp [h'] at h ⊢; exact h
  · simp [Array.getElem?_eq_none h'] at h

theorem getD_ft {listed : Array Bool} {i : Nat} (hi : i < listed.size) (h : listed.getD i true = true) : listed.getD i false = true := by
  simp [hi] at h ⊢; exact h

theorem wpAny_of (hr : rid < 67108864) {w0 : World} {S0 : Nat → Prop} {B : Ctx} {Q : Exit → Act → World → Prop} (hΓ : GOK P Γ) {tm0 : List AV} (hok : regOK Γ ops tm0 = true) (hsz : ops.size ≤ 64) {fin : St} (hQ : ∀ a w, RelX w0 S0 B fin a w → Q .normal a w) :
    ∀ (fuel : Nat) (listed : Array Bool) (st f : St) (a : Act) (w : World), Fx rid ops tm0 st.tm → listed.size = ops.size → (rem listed ops.size).length ≤ fuel →
      (∀ j, j < ops.size → listed.getD j false = true → ∀ y ∈ (ancTab ops.toList).getD j [], listed.getD y false = true) →
      runL P Γ rid ops (ancTab ops.toList) (rem listed ops.size) st = some f → Eqv fin f → RelX w0 S0 B st a w → wpAnyIn (fen R) 0 P .any ops Q fuel listed a w := by
  have done : ∀ (listed : Array Bool) (st f : St) (a : Act) (w : World), listed.size = ops.size → Region.ready .any ops listed = [] →
      runL P Γ rid ops (ancTab ops.toList) (rem listed ops.size) st = some f → Eqv fin f → RelX w0 S0 B st a w → Q .normal a w := by
    intro listed st f a w hls hr hrun hE hX
    have hnil : rem listed ops.size = [] := by
      by_cases hne : rem listed ops.size = []
      · exact hne
      · exfalso
        have hex : ∃ i, i < ops.size ∧ listed.getD i true = false := by
          obtain ⟨i, hi⟩ := List.exists_mem_of_ne_nil _ hne
          exact ⟨i, mem_rem.1 hi⟩
        have key : ∀ i, i < ops.size → listed.getD i true = false → False := by
          intro i
          induction i using Nat.strongRecOn with
          | ind i ih =>
            intro hi hu
            have : i ∈ Region.ready .any ops listed := mem_ready.2 ⟨hu, _, Array.getElem?_eq_getElem hi, fun e he hb => by
              have hlt := reg_edge hok (Array.getElem?_eq_getElem hi) e he hb
              cases hc : listed.getD e.on true with
              | true => exact getD_ft (by omega) hc
              | false => exact (ih e.on hlt (by omega) hc).elim⟩
            rw [hr] at this
            cases this
        obtain ⟨i, h1, h2⟩ := hex
        exact key i h1 h2
    rw [hnil] at hrun
    simp only [runL, Option.some.injEq] at hrun
    subst hrun
    exact hQ a w (hX.eqv hE.symm)
  intro fuel
  induction fuel with
  | zero =>
    intro listed st f a w hfx hls hlen hcl hrun hE hX
    have hnil : rem listed ops.size = [] := List.eq_nil_of_length_eq_zero (by omega)
    have hr : Region.ready .any ops listed = [] := by
      refine List.eq_nil_iff_forall_not_mem.2 fun i hi => ?_
      obtain ⟨hu, o, ho, _⟩ := mem_ready.1 hi
      have : i ∈ rem listed ops.size := mem_rem.2 ⟨(Array.getElem?_eq_some_iff.1 ho).1, hu⟩
      rw [hnil] at this
      cases this
    exact ⟨hr, done listed st f a w hls hr hrun hE hX⟩
  | succ fuel ih =>
    intro listed st f a w hfx hls hlen hcl hrun hE hX
    refine ⟨fun hr => done listed st f a w hls hr hrun hE hX, fun i hi => ?_⟩
    obtain ⟨hu, o, ho, hall⟩ := mem_ready.1 hi
    have hin := (Array.getElem?_eq_some_iff.1 ho).1
    obtain ⟨l1, l2, hs1, hs2, hl1⟩ := rem_split hls hin hu
    have hbef : ∀ y ∈ (ancTab ops.toList).getD i [], listed.getD y false = true := fun y hy => by
      obtain ⟨e, he, hb, h2⟩ := tab_spec ho hy
      have hlt := reg_edge hok ho e he hb
      have h3 := hall e he hb
      rcases h2 with rfl | h2
      · exact h3
      · exact hcl e.on (by omega) h3 y h2
    rw [hs1] at hrun
    obtain ⟨t, f', h1, h2, h3⟩ := toFront hΓ.natOK (tm0 := tm0) ho l1 l2 st f hfx (fun j hj => by
      obtain ⟨hji, hju⟩ := hl1 j hj
      have hjn : j < ops.size := by omega
      have hn : j ∉ (ancTab ops.toList).getD i [] := fun hm => by
        have := getD_tf (hbef j hm)
        rw [hju] at this
        cases this
      have hn' : i ∉ (ancTab ops.toList).getD j [] := fun hm => by
        have := tab_lt hok j i hjn hm
        omega
      exact ⟨ops[j], Array.getElem?_eq_getElem hjn, pair_indep hr (reg_pair hok (Array.getElem?_eq_getElem hjn) ho hji hn) (by omega) (by omega) (by omega) hn hn'⟩) hrun
    refine stepD_sound hΓ h1 hX fun a' w' hX' => ?_
    refine ih (listed.setIfInBounds i true) t f' a' w' (stepD_fx (by omega) hfx h1) (by simpa using hls) ?_ ?_ (by rw [hs2]; exact h2) (hE.trans h3) hX'
    · have : (rem listed ops.size).length = (l1 ++ l2).length + 1 := by rw [hs1]; simp; omega
      rw [hs2]
      omega
    · intro j hj hlj y hy
      by_cases hji : i = j
      · subst hji
        exact getD_set_true (hbef y hy)
      · rw [getD_set_ne false hji] at hlj
        exact getD_set_true (hcl j hj hlj y hy)

theorem rem_none (n : Nat) : rem (Array.replicate n false) n = List.range' 0 n := by
  unfold rem
  rw [List.range_eq_range', List.filter_eq_self]
  intro i hi
  simp only [List.mem_range'_1] at hi
  have : i < n := by omega
  simp [this]

theorem drawOK (hΓ : GOK P Γ) (hm : P.follows .mixedOrders = true) : DrawOK P Γ := by
  intro ρ w0 S0 B id ops k r st a w Q R hsz hok hid h hX hk
  obtain ⟨fin, h1, h2⟩ := evOps_runL hΓ.natOK (tab := ancTab ops.toList) (ops := ops) ops.toList 0 st (fun j => by simp) h
  refine wpIn_region_any hm ?_
  refine wpAny_of (rid := id) hid hΓ hok hsz (fin := fin) (fun a w hX' => hk fin a w h2 hX') ops.size _ st fin a _ ⟨fun _ _ => rfl, fun s hs => by unfold boxB at hs; simp only [Bool.and_eq_true] at hs; exact hs.1, fun bef s hs => .inl (by unfold locB at hs; simp only [Bool.and_eq_true] at hs; exact hs.1)⟩ (by simp) (by rw [rem_none]; simp) (fun j hj hl => ?_) ?_ (Eqv.refl _) (hX.world rfl rfl rfl rfl)
  · simp [hj] at hl
  · rw [rem_none]
    simpa using h1
end draw
end Go.Ev

/-
  What a row says of a call's arguments, as plain data; and the row's frame.
-/
namespace Go.Ev
open Go.RowKit Go.WideShapes Go.ChangeShapes

/-- Plain data as an argument brings it: its numbers fit their kinds, its lengths the machine's memory. -/
inductive Fit : AV → Prop where
  | int (k : IntKind) (n : Int) (h : (Lit.int k n).wf = true) : Fit (.int k n)
  | bool (b : Bool) : Fit (.bool b)
  | str (s : List UInt8) (h : s.length ≤ reachBytes) : Fit (.str s)
  | agg (cs : List AV) (h : ∀ c ∈ cs, Fit c) : Fit (.agg cs)
  | slv (s : Sh) (es : List AV) (h : es.length ≤ reachBytes) (hs : ∀ e ∈ es, hasSh s e = true) (hf : ∀ e ∈ es, Fit e) : Fit (.slv s es)

mutual
def AV.sz : AV → Nat
  | .str s => s.length + 1
  | .agg cs => AV.szs cs
  | .slv _ es => AV.szs es + 1
  | _ => 1
def AV.szs : List AV → Nat
  | [] => 0
  | c :: cs => c.sz + AV.szs cs
end
theorem szs_append (l r : List AV) : AV.szs (l ++ r) = AV.szs l + AV.szs r := by
  induction l with
  | nil => simp [AV.szs]
  | cons c l ih => simp only [List.cons_append, AV.szs, ih]; omega

/-- A measure of a reading: how much it holds. -/
structure BK (H : Type) where
  bk : DataW H → Nat
  all : List (DataW H) → Nat
  str : ∀ b, bk (.lit (.string b)) = b.length + 1
  lit : ∀ l, 1 ≤ bk (.lit l)
  nil : 1 ≤ bk .nil
  agg : ∀ l, bk (.agg l) = all l + 1
  slice : ∀ e s, bk (.slice e s) = all e + all s + 1
  anil : all [] = 0
  acons : ∀ d l, all (d :: l) = bk d + all l
theorem BK.app {H : Type} (B : BK H) (l r : List (DataW H)) : B.all (l ++ r) = B.all l + B.all r := by
  induction l with
  | nil => simp [B.anil]
  | cons c l ih => simp only [List.cons_append, B.acons, ih]; omega

/-- The fields lie one behind the other. -/
def laidF (P : Program) (ok : TypeId → Bool) (sh : TypeId → Sh) : Nat → List Field → Nat → Bool
  | off, [], total => off == total
  | off, f :: fs, total => (f.offset == off) && ((P.cellsOf f.type == (sh f.type).width) && (ok f.type && laidF P ok sh (off + P.cellsOf f.type) fs total))
/-- A type of plain data. -/
def tyOK (P : Program) : Nat → TypeId → Bool
  | 0, _ => false
  | n + 1, t =>
    match P.underlying t with
    | some (.int _) => true
    | some .bool => true
    | some .string => true
    | some (.slice e) => (P.cellsOf e == (shOf P n e).width) && ((Nat.blt 0 (P.cellsOf e) && Nat.blt 0 (P.bytesOf e)) && tyOK P n e)
    | some (.struct fs) => laidF P (tyOK P n) (shOf P n) 0 fs.toList (P.cellsOf t)
    | _ => false

theorem beqs_app : ∀ (l l' : List Sh), Sh.beqs l l = true → Sh.beqs l' l' = true → Sh.beqs (l ++ l') (l ++ l') = true
  | [], l', _, h => h
  | a :: l, l', h, h' => by
    simp only [Sh.beqs, Bool.and_eq_true] at h
    simp only [List.cons_append, Sh.beqs, Bool.and_eq_true]
    exact ⟨h.1, beqs_app l l' h.2 h'⟩
theorem beqs_cells {s : Sh} (h : Sh.beq s s = true) : Sh.beqs s.cells s.cells = true := by
  cases s <;> simp_all [Sh.cells, Sh.beqs, Sh.beq]
theorem beqs_fields {P : Program} {ok : TypeId → Bool} {sh : TypeId → Sh} (hok : ∀ t, ok t = true → Sh.beq (sh t) (sh t) = true) : ∀ (fs : List Field) (off total : Nat), laidF P ok sh off fs total = true →
    Sh.beqs (fs.flatMap fun f => (sh f.type).cells) (fs.flatMap fun f => (sh f.type).cells) = true
  | [], _, _, _ => rfl
  | f :: fs, off, total, h => by
    simp only [laidF, Bool.and_eq_true] at h
    rw [List.flatMap_cons]
    exact beqs_app _ _ (beqs_cells (hok _ h.2.2.1)) (beqs_fields hok fs _ _ h.2.2.2)
theorem beq_self {P : Program} : ∀ (n : Nat) (t : TypeId), tyOK P n t = true → Sh.beq (shOf P n t) (shOf P n t) = true
  | 0, _, h => by simp [tyOK] at h
  | n + 1, t, h => by
    simp only [tyOK] at h
    simp only [shOf]
    cases hu : P.underlying t with
    | none => simp [hu] at h
    | some d =>
      simp only [hu] at h
      cases d <;> simp only [Bool.false_eq_true] at h <;> simp only [Sh.beq, decide_true]
      case slice e =>
        simp only [Bool.and_eq_true] at h
        exact beq_self n e h.2.2
      case struct fs =>
        exact beqs_fields (fun t ht => beq_self n t ht) fs.toList _ _ h

section open_
variable {H : Type} {enc : TypeId × Value → H} {P : Program} {w : World} {sp : Nat → Bool} {held : Bool} (B : BK H)

/-- Everything that the call finds. -/
def here (w : World) : Nat → Prop := fun b => b < w.heap.size

structure Opened (P : Program) (w : World) (s : Sh) (cs : List Value) (avs : List AV) (m : Nat) : Prop where
  rel : VRels w (here w) nob avs cs
  has : hass s.cells avs = true
  fit : ∀ c ∈ avs, Fit c
  one : ∀ u ∈ cs, u.oneCell' = true
  sz : AV.szs avs ≤ m

theorem mkAV_fit {s : Sh} {avs : List AV} (h : hass s.cells avs = true) (hf : ∀ c ∈ avs, Fit c) : Fit (mkAV s avs) := by
  have hc := mkAV_of h
  cases s with
  | agg l => exact .agg _ hf
  | _ =>
    cases avs with
    | nil => simp [Sh.cells, hass] at h
    | cons c cs => exact hf c (by simp)

theorem mkAV_sz {s : Sh} {avs : List AV} (h : hass s.cells avs = true) : (mkAV s avs).sz ≤ AV.szs avs := by
  cases s with
  | agg l => simp [mkAV, AV.sz]
  | _ =>
    cases avs with
    | nil => simp [Sh.cells, hass] at h
    | cons c cs => simp [mkAV, AV.szs]

theorem cell_block {a : Addr} {u : Value} (h : w.cell? a = some u) : a.block < w.heap.size := by
  unfold World.cell? at h
  rcases Nat.lt_or_ge a.block w.heap.size with h' | h'
  · exact h'
  · simp [Array.getElem?_eq_none h'] at h

theorem cells_spec {a : Addr} : ∀ {n : Nat} {cs : List Value}, w.cells? 0 a n = some cs → cs.length = n ∧ ∀ (j : Nat) (u : Value), cs[j]? = some u → w.cell? (a.add j) = some u := by
  intro n
  unfold World.cells?
  simp only [Nat.zero_le, if_true]
  induction n with
  | zero => intro cs h; simp at h; subst h; simp
  | succ n ih =>
    intro cs h
    rw [List.range_succ, List.mapM_append] at h
    cases h1 : (List.range n).mapM fun i => w.cell? (a.add i) with
    | none => simp [h1] at h
    | some l =>
      simp only [h1, Option.bind_eq_bind, Option.bind_some, List.mapM_cons, List.mapM_nil, Option.pure_def] at h
      cases h2 : w.cell? (a.add n) with
      | none => simp [h2] at h
      | some u =>
        simp only [h2, Option.bind_some, Option.some.injEq] at h
        subst h
        obtain ⟨h3, h4⟩ := ih h1
        refine ⟨by simp [h3], fun j x hx => ?_⟩
        rcases Nat.lt_or_ge j l.length with hj | hj
        · rw [List.getElem?_append_left hj] at hx; exact h4 j x hx
        · rw [List.getElem?_append_right hj] at hx
          have : j - l.length = 0 := by
            rcases Nat.eq_zero_or_pos (j - l.length) with h | h
            · exact h
            · rw [List.getElem?_eq_none (by simp; omega)] at hx; cases hx
          rw [this] at hx
          simp at hx
          have : j = n := by omega
          subst this
          rw [← hx]; exact h2

theorem all_mem {e : TypeId} : ∀ {l : List (DataW H)} {d : DataW H}, d ∈ l → ∀ n ∈ d.weights P e, n ∈ DataW.weightsAll P e l
  | d0 :: l, d, h, n, hn => by
    simp only [DataW.weightsAll, List.mem_append]
    rcases List.mem_cons.1 h with rfl | h
    · exact .inl hn
    · exact .inr (all_mem h n hn)
theorem each_mem : ∀ {ts : List TypeId} {ds : List (DataW H)} {j : Nat} {t : TypeId} {d : DataW H}, ts[j]? = some t → ds[j]? = some d → ∀ n ∈ d.weights P t, n ∈ DataW.weightsEach P ts ds
  | t0 :: ts, d0 :: ds, 0, t, d, ht, hd, n, hn => by
    simp only [List.getElem?_cons_zero, Option.some.injEq] at ht hd
    subst ht; subst hd
    simp only [DataW.weightsEach, List.mem_append]
    exact Or.inl hn
  | t0 :: ts, d0 :: ds, j + 1, t, d, ht, hd, n, hn => by
    simp only [List.getElem?_cons_succ] at ht hd
    simp only [DataW.weightsEach, List.mem_append]
    exact Or.inr (each_mem ht hd n hn)
  | [], _, _, _, _, ht, _, _, _ => by simp at ht
  | _ :: _, [], _, _, _, _, hd, _, _ => by simp at hd
/-- A slice's elements, one by one. -/
theorem open_elems {s : Sh} {c : Nat} {a : Addr} {f : List Value → Option (DataW H × List MemPlace)} (hc : c = s.width) {elems : List (DataW H × List MemPlace)} (hf : ∀ cs x, x ∈ elems → f cs = some x → ∃ avs, Opened P w s cs avs (B.bk x.1))
    (he : ∀ i, i < elems.length → (w.cells? 0 (a.add (i * c)) c).bind f = elems[i]?) :
    ∀ (len : Nat), len ≤ elems.length →
      ∃ (es : List AV) (xs : List Value), es.length = len ∧ (∀ e ∈ es, hasSh s e = true) ∧ (∀ e ∈ es, Fit e) ∧ VRels w (here w) nob (flat es) xs ∧ (∀ u ∈ xs, u.oneCell' = true) ∧
        (∀ (j : Nat) (u : Value), xs[j]? = some u → w.cell? (a.add j) = some u) ∧ xs.length = len * c ∧ AV.szs es ≤ B.all ((elems.take len).map (·.1))
  | 0, _ => ⟨[], [], rfl, by simp, by simp, VRels.nil, by simp, by simp, by simp, by simp [AV.szs]⟩
  | len + 1, hle => by
    have hlt : len < elems.length := by omega
    have h := he len hlt
    rw [List.getElem?_eq_getElem hlt] at h
    cases h2 : w.cells? 0 (a.add (len * c)) c with
    | none => simp [h2] at h
    | some cs =>
      simp only [h2, Option.bind_some] at h
      obtain ⟨es, xs, i1, i2, i3, i4, i5, i6, i7, i8⟩ := open_elems hc hf he len (by omega)
      obtain ⟨avs, hO⟩ := hf cs _ (List.getElem_mem hlt) h
      obtain ⟨c1, c2⟩ := cells_spec h2
      obtain ⟨m1, m2⟩ := mkAV_of hO.has
      refine ⟨es ++ [mkAV s avs], xs ++ cs, by simp [i1], ?_, ?_, ?_, ?_, ?_, ?_, ?_⟩
      · intro e he
        simp only [List.mem_append, List.mem_singleton] at he
        rcases he with he | rfl
        · exact i2 e he
        · exact m2
      · intro e he
        simp only [List.mem_append, List.mem_singleton] at he
        rcases he with he | rfl
        · exact i3 e he
        · exact mkAV_fit hO.has hO.fit
      · have : flat (es ++ [mkAV s avs]) = flat es ++ avs := by simp [flat, m1]
        rw [this]
        exact i4.append hO.rel
      · intro u hu
        simp only [List.mem_append] at hu
        rcases hu with hu | hu
        · exact i5 u hu
        · exact hO.one u hu
      · intro j u hu
        rcases Nat.lt_or_ge j xs.length with hj | hj
        · rw [List.getElem?_append_left hj] at hu; exact i6 j u hu
        · rw [List.getElem?_append_right hj] at hu
          have := c2 _ u hu
          rw [add_add, i7] at this
          have e : len * c + (j - len * c) = j := by rw [i7] at hj; omega
          rwa [e] at this
      · simp only [List.length_append, i7, c1]; rw [Nat.succ_mul]
      · rw [szs_append, List.take_add_one, List.getElem?_eq_getElem hlt, List.map_append, B.app]
        simp only [AV.szs, Option.toList_some, List.map_cons, List.map_nil, B.acons, B.anil]
        have := mkAV_sz hO.has
        have := hO.sz
        omega

/-- A struct's fields, one by one. -/
theorem open_fields {sh : TypeId → Sh} {ok : TypeId → Bool} {f : TypeId → List Value → Option (DataW H × List MemPlace)} (hf : ∀ t cs x, ok t = true → (∀ n ∈ x.1.weights P t, n ≤ reachBytes) → f t cs = some x → ∃ avs, Opened P w (sh t) cs avs (B.bk x.1)) (cs : List Value) :
    ∀ (fs : List Field) (off : Nat) (xs : List (DataW H × List MemPlace)), laidF P ok sh off fs cs.length = true → xs.length = fs.length → (∀ n ∈ DataW.weightsEach P (fs.map (·.type)) (xs.map (·.1)), n ≤ reachBytes) → (∀ (i : Nat) (g : Field), fs[i]? = some g → f g.type ((cs.drop g.offset).take (P.cellsOf g.type)) = xs[i]?) →
      ∃ avs, VRels w (here w) nob avs (cs.drop off) ∧ hass (fs.flatMap fun g => (sh g.type).cells) avs = true ∧ (∀ c ∈ avs, Fit c) ∧ (∀ u ∈ cs.drop off, u.oneCell' = true) ∧ AV.szs avs ≤ B.all (xs.map (·.1))
  | [], off, xs, hl, _, _, h => by
    simp only [laidF, beq_iff_eq] at hl
    have hd : cs.drop off = [] := List.drop_eq_nil_of_le (by omega)
    rw [hd]
    exact ⟨[], VRels.nil, rfl, by simp, by simp, by simp [AV.szs]⟩
  | g :: fs, off, [], hl, hlen, _, h => by simp at hlen
  | g :: fs, off, x :: ys, hl, hlen, hz, h => by
        simp only [laidF, Bool.and_eq_true, beq_iff_eq] at hl
        obtain ⟨h1, h2, h3, h4⟩ := hl
        have e1 : f g.type ((cs.drop g.offset).take (P.cellsOf g.type)) = some x := h 0 g rfl
        have e2 : ∀ (i : Nat) (g : Field), fs[i]? = some g → f g.type ((cs.drop g.offset).take (P.cellsOf g.type)) = ys[i]? := fun i g hg => h (i + 1) g hg
        obtain ⟨avs, hO⟩ := hf _ _ _ h3 (fun n hn => hz n (by simp only [List.map_cons, DataW.weightsEach, List.mem_append]; exact .inl hn)) e1
        obtain ⟨bvs, i1, i2, i3, i4, i5⟩ := open_fields hf cs fs _ ys h4 (by simpa using hlen) (fun n hn => hz n (by simp only [List.map_cons, DataW.weightsEach, List.mem_append]; exact .inr hn)) e2
        have hsp : cs.drop off = (cs.drop g.offset).take (P.cellsOf g.type) ++ cs.drop (off + P.cellsOf g.type) := by
          rw [h1, ← List.drop_drop, List.take_append_drop]
        refine ⟨avs ++ bvs, ?_, ?_, ?_, ?_, ?_⟩
        · rw [hsp]; exact hO.rel.append i1
        · rw [List.flatMap_cons]
          have happ : ∀ (l l' : List Sh) (a b : List AV), hass l a = true → hass l' b = true → hass (l ++ l') (a ++ b) = true := by
            intro l
            induction l with
            | nil => intro l' a b ha hb; cases a <;> simp [hass] at ha; exact hb
            | cons s l ih =>
              intro l' a b ha hb
              cases a with
              | nil => simp [hass] at ha
              | cons c a =>
                simp only [hass, Bool.and_eq_true] at ha
                simp only [List.cons_append, hass, Bool.and_eq_true]
                exact ⟨ha.1, ih l' a b ha.2 hb⟩
          exact happ _ _ _ _ hO.has i2
        · intro c hc
          simp only [List.mem_append] at hc
          rcases hc with hc | hc
          · exact hO.fit c hc
          · exact i3 c hc
        · intro u hu
          rw [hsp, List.mem_append] at hu
          rcases hu with hu | hu
          · exact hO.one u hu
          · exact i4 u hu
        · rw [szs_append]
          simp only [List.map_cons, B.acons]
          have := hO.sz
          omega

theorem open_cells : ∀ (fuel n : Nat) (t : TypeId) (cs : List Value) (x : DataW H × List MemPlace), tyOK P n t = true → (∀ m ∈ x.1.weights P t, m ≤ reachBytes) → DataW.trod enc P w 0 sp held fuel t cs = some x → ∃ avs, Opened P w (shOf P n t) cs avs (B.bk x.1)
  | 0, n, t, cs, x, _, _, h => by simp [DataW.trod] at h
  | fuel + 1, 0, t, cs, x, hn, _, _ => by simp [tyOK] at hn
  | fuel + 1, n + 1, t, cs, x, hn, hz, h => by
    simp only [tyOK] at hn
    cases hu : P.underlying t with
    | none => simp [hu] at hn
    | some d =>
      simp only [hu] at hn
      cases d <;> simp only [Bool.false_eq_true] at hn
      case bool =>
        obtain ⟨b, rfl, rfl⟩ := DataW.trod_bool hu h
        refine ⟨[.bool b], VRels.cons (.bool _ b) VRels.nil, by simp [shOf, hu, Sh.cells, hass, has1], ?_, ?_, ?_⟩
        · intro c hc; simp at hc; subst hc; exact .bool b
        · intro c hc; simp at hc; subst hc; rfl
        · simp only [AV.szs, AV.sz]; exact B.lit _
      case int k =>
        obtain ⟨m, rfl, rfl, hw⟩ := DataW.trod_int hu h
        refine ⟨[.int k m], VRels.cons (.int _ k m) VRels.nil, by simp [shOf, hu, Sh.cells, hass, has1], ?_, ?_, ?_⟩
        · intro c hc; simp at hc; subst hc; exact .int k m hw
        · intro c hc; simp at hc; subst hc; rfl
        · simp only [AV.szs, AV.sz]; exact B.lit _
      case string =>
        obtain ⟨s, rfl, rfl, hs⟩ := DataW.trod_string hu h
        have hv : VRel w (here w) nob (.str s.data.toList) (.string s) := by
          have := VRel.str (w := w) (S := here w) nob s.data.toList
          simpa using this
        refine ⟨[.str s.data.toList], VRels.cons hv VRels.nil, by simp [shOf, hu, Sh.cells, hass, has1], ?_, ?_, ?_⟩
        · intro c hc; simp at hc; subst hc; exact .str _ (hz _ (by simp [DataW.weights]))
        · intro c hc; simp at hc; subst hc; rfl
        · simp only [AV.szs, AV.sz, B.str]; omega
      case slice e =>
        simp only [Bool.and_eq_true, beq_iff_eq] at hn
        obtain ⟨n1, ⟨n2, n4⟩, n3⟩ := hn
        have hsh : shOf P (n + 1) t = .slice (shOf P n e) := by simp [shOf, hu]
        rw [hsh]
        rcases DataW.trod_slice hu h with ⟨rfl, rfl⟩ | ⟨a, len, cap, elems, rest, m, hm, rfl, rfl, _, hlc, hcm, hel, hat, _, _⟩
        · refine ⟨[.slv (shOf P n e) []], VRels.cons (.slv _ _ [] none 0 ⟨0, 0, none⟩ [] (by simp) (Nat.le_refl _) (Nat.zero_le _) (fun h => absurd rfl h) rfl (by simp) (by simp) (by simp [flat])) VRels.nil, ?_, ?_, ?_, ?_⟩
          · simp only [Sh.cells, hass, has1, Bool.and_true]; exact beq_self n e n3
          · intro c hc; simp at hc; subst hc; exact .slv _ _ (Nat.zero_le _) (by simp) (by simp)
          · intro c hc; simp at hc; subst hc; rfl
          · simp only [AV.szs, AV.sz]; exact B.nil
        · obtain rfl : fuel = m := by omega
          subst hel
          have hze : ∀ x ∈ elems, ∀ m ∈ x.1.weights P e, m ≤ reachBytes := fun x hx m hm => hz m (by
            simp only [DataW.weights, hu, List.mem_cons, List.mem_append]
            exact .inr (.inl (all_mem (List.mem_map.2 ⟨x, hx, rfl⟩) m hm)))
          have hlz : elems.length ≤ reachBytes := by
            have h1 := hz ((elems.map (·.1)).length * P.bytesOf e + (rest.map (·.1)).length * P.bytesOf e) (by
              simp only [DataW.weights, hu, List.mem_cons]
              exact .inl (Nat.add_mul _ _ _).symm)
            rw [List.length_map] at h1
            have h2 : 0 < P.bytesOf e := Nat.le_of_ble_eq_true n4
            have h3 := Nat.le_mul_of_pos_right elems.length h2
            omega
          obtain ⟨es, xs, i1, i2, i3, i4, i5, i6, i7, i8⟩ := open_elems (a := a) B n1 (elems := elems) (fun cs x hm hx => open_cells fuel n e cs x n3 (hze x hm) hx) (fun i hi => hat i hi) elems.length (Nat.le_refl _)
          have hfl : (flat es).length = xs.length := i4.1.symm
          have hv : VRel w (here w) nob (.slv (shOf P n e) es) (.slice (some a) es.length cap) := by
            refine .slv _ _ es (some a) cap a xs i2 (by omega) hcm (fun hne => ⟨rfl, ?_⟩) hfl.symm i5 i6 (fun j c u hc hu => i4.2 j c u hc hu)
            have hpos : 0 < xs.length := by
              rw [i7]
              have : 0 < es.length := List.length_pos_iff.2 hne
              exact Nat.mul_pos (by omega) (Nat.le_of_ble_eq_true n2)
            have := i6 0 xs[0] (List.getElem?_eq_getElem hpos)
            have := cell_block this
            rwa [add_block] at this
          rw [i1] at hv
          refine ⟨[.slv (shOf P n e) es], VRels.cons hv VRels.nil, ?_, ?_, ?_, ?_⟩
          · simp only [Sh.cells, hass, has1, Bool.and_true]; exact beq_self n e n3
          · intro c hc; simp at hc; subst hc; exact .slv _ _ (by rw [i1]; exact hlz) i2 i3
          · intro c hc; simp at hc; subst hc; rfl
          · simp only [AV.szs, AV.sz, B.slice]
            rw [List.take_of_length_le (Nat.le_refl _)] at i8
            omega
      case struct fs =>
        obtain ⟨xs, m, hm, rfl, hlen, hxl, hat⟩ := DataW.trod_struct hu h
        obtain rfl : fuel = m := by omega
        rw [← hlen] at hn
        obtain ⟨avs, i1, i2, i3, i4, i5⟩ := open_fields B (f := fun t cs => DataW.trod enc P w 0 sp held fuel t cs) (fun t cs x ht hz hx => open_cells fuel n t cs x ht hz hx) cs fs.toList 0 xs hn (by simpa using hxl) (fun m hm => hz m (by simp only [DataW.weights, hu]; exact hm)) (fun i g hg => hat i g (by simpa using hg))
        refine ⟨avs, by simpa using i1, ?_, i3, by simpa using i4, ?_⟩
        · simpa [shOf, hu, Sh.cells] using i2
        · rw [B.agg]; omega

/-- An argument. -/
theorem open_arg {n : Nat} {t : TypeId} {v : Value} {d : DataW H} {ps : List MemPlace} {r : Reach} {b0 : Nat} (hn : tyOK P n t = true) (hval : Value.okWide P w r b0 t v) (hz : ∀ m ∈ d.weights P t, m ≤ reachBytes) (h : DataW.Trod enc P w 0 sp held t v d ps) :
    ∃ av, VRel w (here w) nob av v ∧ hasSh (shOf P n t) av = true ∧ Fit av ∧ av.sz ≤ B.bk d := by
  obtain ⟨fuel, h⟩ := h
  obtain ⟨avs, hO⟩ := open_cells B fuel n t _ _ hn hz h
  have hm := mkAV_of hO.has
  refine ⟨mkAV (shOf P n t) avs, ?_, hm.2, mkAV_fit hO.has hO.fit, Nat.le_trans (mkAV_sz hO.has) hO.sz⟩
  cases n with
  | zero => simp [tyOK] at hn
  | succ n =>
    have one : (∃ u, v = u ∧ v.cells.toList = [v]) → (mkAV (shOf P (n + 1) t) avs = avs.headD .unk) → VRel w (here w) nob (mkAV (shOf P (n + 1) t) avs) v := by
      rintro ⟨u, _, hv⟩ hmk
      have hrel := hO.rel
      rw [hv] at hrel
      rw [hmk]
      cases avs with
      | nil => simpa using hrel.1
      | cons c cs =>
        obtain ⟨v', vs', h1, h2, _⟩ := hrel.inv
        cases h1
        exact h2
    simp only [tyOK] at hn
    cases hu : P.underlying t with
    | none => simp [hu] at hn
    | some dd =>
      simp only [hu] at hn
      cases dd <;> simp only [Bool.false_eq_true] at hn
      case bool => obtain ⟨b, rfl⟩ := okWide_bool hu hval; exact one ⟨_, rfl, rfl⟩ (by simp [shOf, hu, mkAV])
      case int k => obtain ⟨b, rfl⟩ := okWide_int hu hval; exact one ⟨_, rfl, rfl⟩ (by simp [shOf, hu, mkAV])
      case string => obtain ⟨b, rfl⟩ := okWide_string hu hval; exact one ⟨_, rfl, rfl⟩ (by simp [shOf, hu, mkAV])
      case slice e =>
        refine one ⟨_, rfl, ?_⟩ (by simp [shOf, hu, mkAV])
        simp only [Value.okWide, hu, Cell.okWide] at hval
        cases v <;> simp_all [Cell.ok, Value.cells]
      case struct fs =>
        obtain ⟨cs, rfl, _⟩ := okWide_struct hu hval
        have hmk : mkAV (shOf P (n + 1) t) avs = .agg avs := by simp [shOf, hu, mkAV]
        rw [hmk]
        have := VRel.agg (w := w) (S := here w) nob avs cs.toList hO.rel.1 (fun u hu => hO.one u hu) (fun j c u hc hu => hO.rel.2 j c u hc hu)
        simpa using this
end open_
end Go.Ev

/-
  The frame of a law's row: a function of plain data that answers true.
-/
namespace Go.Ev
open Go.RowKit Go.WideShapes Go.ChangeShapes

def hasAll : List Sh → List AV → Bool
  | [], [] => true
  | s :: l, c :: cs => hasSh s c && hasAll l cs
  | _, _ => false

/-- What a call of a law finds: values of the parameters' shapes that fit, of this bulk. -/
structure Given (ss : List Sh) (avs : List AV) (m : Nat) : Prop where
  has : hasAll ss avs = true
  fit : ∀ a ∈ avs, Fit a
  sz : AV.szs avs ≤ m

section
variable {H : Type} {enc : TypeId × Value → H} {P : Program}

theorem open_args (B : BK H) {n : Nat} {w : World} {sp : Nat → Bool} {held : Bool} {r : Reach} {b0 : Nat} : ∀ (ts : List TypeId) (vs : List Value) (ds : List (DataW H)) (ps : List MemPlace), (∀ t ∈ ts, tyOK P n t = true) →
    (∀ (j : Nat) (t : TypeId) (v : Value), ts[j]? = some t → vs[j]? = some v → Value.okWide P w r b0 t v) → (∀ m ∈ DataW.weightsEach P ts ds, m ≤ reachBytes) → DataW.TrodAll enc P w 0 sp held ts vs ds ps →
    ∃ avs, VRels w (here w) nob avs vs ∧ Given (ts.map (shOf P n)) avs (B.all ds) ∧ ds.length = ts.length
  | [], [], [], ps, _, _, _, _ => ⟨[], VRels.nil, ⟨rfl, by simp, by simp [AV.szs]⟩, rfl⟩
  | [], [], _ :: _, ps, _, _, _, h => h.elim
  | [], _ :: _, _, ps, _, _, _, h => by cases ‹List (DataW H)› <;> exact h.elim
  | _ :: _, [], _, ps, _, _, _, h => by cases ‹List (DataW H)› <;> exact h.elim
  | _ :: _, _ :: _, [], ps, _, _, _, h => h.elim
  | t :: ts, v :: vs, d :: ds, ps, ht, hv, hz, h => by
    obtain ⟨p, q, h1, h2, rfl⟩ := h
    obtain ⟨av, a1, a2, a3, a4⟩ := open_arg B (ht t (by simp)) (hv 0 t v rfl rfl) (fun m hm => hz m (by simp only [DataW.weightsEach, List.mem_append]; exact .inl hm)) h1
    obtain ⟨avs, i1, i2, i3⟩ := open_args B ts vs ds q (fun t' h' => ht t' (by simp [h'])) (fun j t' v' h1 h2 => hv (j + 1) t' v' h1 h2) (fun m hm => hz m (by simp only [DataW.weightsEach, List.mem_append]; exact .inr hm)) h2
    refine ⟨av :: avs, VRels.cons a1 i1, ⟨?_, ?_, ?_⟩, by simp [i3]⟩
    · simp only [List.map_cons, hasAll, Bool.and_eq_true]; exact ⟨a2, i2.has⟩
    · intro a ha
      simp only [List.mem_cons] at ha
      rcases ha with rfl | ha
      · exact a3
      · exact i2.fit a ha
    · simp only [AV.szs, B.acons]
      have := i2.sz
      omega

theorem keep_args {W W' : World} {sp : Nat → Bool} (hl : laidOutB P = true) (hb : Below W.heap.size W W') : ∀ (ts : List TypeId) (vs : List Value) (ds : List (DataW H)) (ps : List MemPlace), (∀ t ∈ ts, P.readableRec t = true ∧ t < P.types.size) →
    DataW.TrodAll enc P W 0 (fun _ => true) true ts vs ds ps → (∀ x ∈ ps, x.block < W.heap.size) → (∀ x ∈ ps, sp x.block = true) → DataW.TrodAll enc P W' 0 sp true ts vs ds ps
  | [], [], [], ps, _, h, _, _ => h
  | [], [], _ :: _, ps, _, h, _, _ => h.elim
  | [], _ :: _, _, ps, _, h, _, _ => by cases ‹List (DataW H)› <;> exact h.elim
  | _ :: _, [], _, ps, _, h, _, _ => by cases ‹List (DataW H)› <;> exact h.elim
  | _ :: _, _ :: _, [], ps, _, h, _, _ => h.elim
  | t :: ts, v :: vs, d :: ds, ps, ht, h, hlt, hs => by
    obtain ⟨p, q, h1, h2, rfl⟩ := h
    refine ⟨p, q, ?_, keep_args hl hb ts vs ds q (fun t' h' => ht t' (by simp [h'])) h2 (fun x hx => hlt x (by simp [hx])) (fun x hx => hs x (by simp [hx])), rfl⟩
    obtain ⟨r1, r2⟩ := ht t (by simp)
    exact WideElems.Trod_stays hl r1 r2 h1 (fun x hx => hb.same (hlt x (by simp [hx]))) (fun x hx => hs x (by simp [hx]))

theorem post_of_below {f : Func} {s : ChangeSpec} {apart fresh handsOn again : Bool} {W W' : World} {args : Array Value} {v : Value} {ds gs : List (DataW H)} {before pa pv : List MemPlace}
    (hW : DataW.Whole enc P f.params.toList s.vars apart W args.toList ds gs before)
    (hres : ∀ (b : Nat) (sp : Nat → Bool) (hd : Bool), DataW.TrodAll enc P W' b sp hd f.resultTypes.toList (v.resultList f.resultTypes.size) (s.fn H (ds ++ gs)).results [])
    (hargs : ∀ sp : Nat → Bool, (∀ p ∈ before, sp p.block = true) → DataW.TrodAll enc P W' 0 sp true f.params.toList args.toList (s.fn H (ds ++ gs)).args pa)
    (hvars : ∀ sp : Nat → Bool, (∀ p ∈ before, sp p.block = true) → DataW.TrodVars enc P W' sp s.vars (s.fn H (ds ++ gs)).vars pv)
    (hps : before = pa ++ pv) (hb : Below W.heap.size W W')
    (hok : ∀ (j : Nat) (t : TypeId) (r : Value), f.resultTypes[j]? = some t → (v.resultList f.resultTypes.size)[j]? = some r → Value.okWide P W' .any 0 t r) :
    s.post enc P f apart fresh handsOn again W args v W' := by
  have hlt : ∀ p ∈ before, p.block < W.heap.size := fun p hp => hW.lt p hp
  have hold : ∀ p ∈ before, (fun b => decide (b < W.heap.size)) p.block = true := fun p hp => by simpa using hlt p hp
  refine ⟨ds, gs, before, [], pa, pv, hW, hres _ _ _, hargs _ hold, hvars _ hold, World.keptBut_mono (fun p hp => ⟨hp, ?_⟩) (hb.frame (· ∈ before)), fun _ => ?_⟩
  · rw [hps, List.mem_append] at hp
    exact Or.inr hp
  · obtain ⟨_, _, _, _, _, hz, hn⟩ := hW
    refine ⟨hok, _, _, ([] ++ pa) ++ pv, ⟨[] ++ pa, pv, trodAll_append (hargs _ (fun _ _ => rfl)) (hres _ _ _), hvars _ (fun _ _ => rfl), rfl, ?_, ?_⟩, ?_⟩
    · intro b off hp
      have hin : MemPlace.cell b off ∈ before := by rw [hps]; simpa using hp
      rw [hb.frozen (hlt _ hin)]
      exact hz b off hin
    · intro ha
      have := hn ha
      rw [hps] at this
      simpa using this
    · intro p hp _
      rw [hps]
      simpa using hp

/-- Types of plain data, as a row's parameters have them. -/
def parsOK (P : Program) (n : Nat) (ts : List TypeId) : Bool := ts.all fun t => tyOK P n t && (P.readableRec t && Nat.blt t P.types.size)

theorem contract_of (B : BK H) {n : Nat} {f : FuncId} {fn : Func} {s : ChangeSpec} {F : Summ} {tb : TypeId} (hl : laidOutB P = true) (hp : parsOK P n fn.params.toList = true) (hbody : hasBody P f = true) (hv : s.vars = []) (hr : fn.resultTypes = #[tb]) (hub : P.underlying tb = some .bool)
    (hs : ∀ ds : List (DataW H), ds.length = fn.params.size → s.fn H ds = { results := [.lit (.bool true)], args := ds }) (hF : SumOK P f F)
    {W : World} {base : Nat} {args : Array Value} {ds gs : List (DataW H)} {before : List MemPlace}
    (hlaw : ∀ avs, Given (fn.params.toList.map (shOf P n)) avs (B.all (ds ++ gs)) → F AV avs some = some (.bool true))
    (hval : ∀ (j : Nat) t v, fn.params[j]? = some t → args[j]? = some v → Value.okWide P W .any base t v)
    (hz : (DataW.weightsEach P (fn.params.toList ++ s.plain.varTypes P) (ds ++ gs)).all (· ≤ reachBytes) = true)
    (hW : DataW.Whole enc P fn.params.toList s.vars false W args.toList ds gs before) (hG : Glb (fun b => b < W.heap.size) W := by exact fun _ _ => trivial) :
    Calls P f args W fun e W' => ∃ v, e = .returned v ∧ s.post enc P fn false true false false W args v W' := by
  have hW' := hW
  obtain ⟨p, q, hA, hV, rfl, hfz, hnd⟩ := hW
  rw [hv] at hV
  have hgs : gs = [] ∧ q = [] := by
    cases gs with
    | nil => exact ⟨rfl, hV⟩
    | cons => exact hV.elim
  obtain ⟨rfl, rfl⟩ := hgs
  simp only [parsOK, List.all_eq_true, Bool.and_eq_true] at hp
  have hz' : ∀ m ∈ DataW.weightsEach P fn.params.toList ds, m ≤ reachBytes := by
    have hvt : s.plain.varTypes P = [] := by
      show s.vars.filterMap _ = _
      rw [hv]; rfl
    rw [hvt, List.append_nil, List.append_nil] at hz
    exact fun m hm => by simpa using List.all_eq_true.1 hz m hm
  obtain ⟨avs, i1, i2, i3⟩ := open_args B fn.params.toList args.toList ds p (fun t ht => (hp t ht).1) (fun j t v h1 h2 => hval j t v (by simpa using h1) (by simpa using h2)) hz' hA
  have hlw := hlaw avs (by simpa using i2)
  have hc := (hF AV W (here W) avs args.toList some _ ⟨fun b hb => hb, hG⟩ i1 hlw).calls hbody
  have hlt : ∀ x ∈ p, x.block < W.heap.size := fun x hx => hW'.lt x (by simpa using hx)
  have hsfn := hs ds (by simpa using i3)
  simp only [Array.toArray_toList] at hc
  refine hc.mono fun e W' he => ?_
  obtain ⟨v, av, S', rfl, hk, hb, _, _, hvr⟩ := he
  cases hk
  have hvv : v = .bool true := hvr.bool_inv
  subst hvv
  refine ⟨_, rfl, post_of_below (pa := p) (pv := []) hW' ?_ ?_ ?_ (by simp) hb ?_⟩
  · intro b sp hd
    rw [List.append_nil, hsfn, hr]
    exact ⟨[], [], ⟨1, by simp [DataW.trod, Value.cells, hub]⟩, rfl, rfl⟩
  · intro sp hsp
    rw [List.append_nil, hsfn]
    exact keep_args hl hb _ _ _ _ (fun t ht => ⟨(hp t ht).2.1, Nat.le_of_ble_eq_true (hp t ht).2.2⟩) hA hlt (fun x hx => hsp x (by simpa using hx))
  · intro sp _
    rw [List.append_nil, hsfn, hv]
    rfl
  · intro j t r h1 h2
    rw [hr] at h1 h2
    cases j with
    | zero =>
      simp [Value.resultList] at h1 h2
      subst h1; subst h2
      simp only [Value.okWide, hub, Cell.okWide, Cell.ok]
    | succ j => simp at h1
end
end Go.Ev

/-
  Loops, by what they come to; what follows an evaluation may follow it later.
-/
namespace Go.Ev
open Go.RowKit

section nat
variable {P : Program} {Γ : Env} {K : List (Nat × Loop)}

theorem decideAt_bind {ρ : Type} (ops : List Oper) (i : Nat) (dst : Option Tmp) (st : St) (f : St → Option St) (g : St → Option ρ) (k : St → Option ρ) (h : ∀ s, g s = (f s).bind k) : decideAt ops i dst st g = (decideAt ops i dst st f).bind k := by
  unfold decideAt
  split
  · split
    · split
      · rename_i b _; cases b <;> simp only [cond_true, cond_false, h]
      · rfl
    · rfl
  · exact h st

theorem evOps_bind (hN : NatOK Γ) {ρ : Type} (rid : Nat) (ops : List Oper) (bef : Option (List (List Nat))) (k : St → Option ρ) : ∀ (l : List Oper) (i : Nat) (st : St), evOps P Γ rid ops bef k i l st = (evOps P Γ rid ops bef some i l st).bind k
  | [], i, st => rfl
  | o :: rest, i, st => by
    have ih := evOps_bind hN rid ops bef k rest (i + 1)
    have run : ∀ rows, evOp P Γ (rid * 64 + i) o st.tm rows (fun e => if freshB (rid * 64 + i) e st.used then (apply (rid * 64 + i) o.dst e st).force fun st1 => decideAt ops i o.dst st1 (evOps P Γ rid ops bef k (i + 1) rest) else none) =
        (evOp P Γ (rid * 64 + i) o st.tm rows (fun e => if freshB (rid * 64 + i) e st.used then (apply (rid * 64 + i) o.dst e st).force fun st1 => decideAt ops i o.dst st1 (evOps P Γ rid ops bef some (i + 1) rest) else none)).bind k := fun rows => by
      rw [evOp_bind hN, evOp_bind hN (y := fun e => if freshB (rid * 64 + i) e st.used then (apply (rid * 64 + i) o.dst e st).force fun st1 => decideAt ops i o.dst st1 (evOps P Γ rid ops bef some (i + 1) rest) else none)]
      cases evOp P Γ (rid * 64 + i) o st.tm rows some with
      | none => rfl
      | some e =>
        simp only [Option.bind_some, St.force_eq]
        split
        · exact decideAt_bind ops i o.dst _ _ _ k ih
        · rfl
    have fin : ∀ rows, (match o.guard with
        | none => evOp P Γ (rid * 64 + i) o st.tm rows fun e => if freshB (rid * 64 + i) e st.used then (apply (rid * 64 + i) o.dst e st).force fun st1 => decideAt ops i o.dst st1 (evOps P Γ rid ops bef k (i + 1) rest) else none
        | some (j, want) =>
          match guardAt ops st.tm j with
          | .bool b => bif b == want then
              evOp P Γ (rid * 64 + i) o st.tm rows fun e => if freshB (rid * 64 + i) e st.used then (apply (rid * 64 + i) o.dst e st).force fun st1 => decideAt ops i o.dst st1 (evOps P Γ rid ops bef k (i + 1) rest) else none
            else evOps P Γ rid ops bef k (i + 1) rest ⟨putTm st.tm o.dst .undef, st.rows, st.used⟩
          | .undef => evOps P Γ rid ops bef k (i + 1) rest ⟨putTm st.tm o.dst .undef, st.rows, st.used⟩
          | _ => none) = Option.bind (match o.guard with
        | none => evOp P Γ (rid * 64 + i) o st.tm rows fun e => if freshB (rid * 64 + i) e st.used then (apply (rid * 64 + i) o.dst e st).force fun st1 => decideAt ops i o.dst st1 (evOps P Γ rid ops bef some (i + 1) rest) else none
        | some (j, want) =>
          match guardAt ops st.tm j with
          | .bool b => bif b == want then
              evOp P Γ (rid * 64 + i) o st.tm rows fun e => if freshB (rid * 64 + i) e st.used then (apply (rid * 64 + i) o.dst e st).force fun st1 => decideAt ops i o.dst st1 (evOps P Γ rid ops bef some (i + 1) rest) else none
            else evOps P Γ rid ops bef some (i + 1) rest ⟨putTm st.tm o.dst .undef, st.rows, st.used⟩
          | .undef => evOps P Γ rid ops bef some (i + 1) rest ⟨putTm st.tm o.dst .undef, st.rows, st.used⟩
          | _ => none) k := fun rows => by
      cases o.guard with
      | none => exact run _
      | some p =>
        obtain ⟨j, want⟩ := p
        simp only
        cases guardAt ops st.tm j <;> try rfl
        · exact ih _
        · rename_i b
          simp only
          generalize (b == want) = c
          cases c
          · exact ih _
          · exact run _
    exact fin _

theorem evC_bind (hN : NatOK Γ) (hfk : Γ.fork = false) : ∀ (c : Code), KOK P Γ K c → ∀ (ρ : Type) (st : St) (k : Ex → St → Option ρ), evC P Γ K c ρ st k = (evC P Γ K c (Ex × St) st fun e st' => some (e, st')).bind fun p => k p.1 p.2 := by
  intro c
  induction c with
  | skip => intro _ ρ st k; rfl
  | label l => intro _ ρ st k; rfl
  | region id ops draw =>
    intro _ ρ st k
    simp only [evC]
    split
    · split
      · split
        · rw [evOps_bind hN, evOps_bind hN (k := fun st' => some (Ex.normal, st'))]
          cases evOps P Γ id ops.toList (some (ancTab ops.toList)) some 0 ops.toList st <;> rfl
        · rfl
      · rw [evOps_bind hN, evOps_bind hN (k := fun st' => some (Ex.normal, st'))]
        cases evOps P Γ id ops.toList none some 0 ops.toList st <;> rfl
    · rfl
  | seq x z ihx ihz =>
    intro hK ρ st k
    simp only [evC]
    refine Eq.trans (ihx hK.seqL ρ st _) (Eq.symm (Eq.trans (congrArg (fun o => Option.bind o _) (ihx hK.seqL (Ex × St) st _)) ?_))
    cases evC P Γ K x (Ex × St) st fun e st' => some (e, st') with
    | none => rfl
    | some p =>
      obtain ⟨e, st'⟩ := p
      cases e with
      | normal => exact (ihz hK.seqR ρ st' k).symm
      | exit i => rfl
      | ret => rfl
  | cond c x z ihx ihz =>
    intro hK ρ st k
    simp only [evC]
    split
    · rename_i t _
      cases t
      · exact ihz hK.condR ρ st k
      · exact ihx hK.condL ρ st k
    · rw [hfk]; rfl
    · rfl
  | block id b ih =>
    intro hK ρ st k
    simp only [evC]
    refine Eq.trans (ih hK.block ρ st _) (Eq.symm (Eq.trans (congrArg (fun o => Option.bind o _) (ih hK.block (Ex × St) st _)) ?_))
    cases evC P Γ K b (Ex × St) st fun e st' => some (e, st') with
    | none => rfl
    | some p =>
      obtain ⟨e, st'⟩ := p
      cases e with
      | normal => rfl
      | ret => rfl
      | exit i => simp only [Option.bind_some]; split <;> rfl
  | loop b ih =>
    intro hK ρ st k
    simp only [evC]
    split
    · rename_i l hl
      split
      · rw [St.force_eq, St.force_eq]
        have hn := (hK b (by simp [loopsOf]) l hl).2
        rw [hn, hn (k := fun e vs rs => some (e, expand l.N vs rs))]
        generalize l.L _ _ _ _ = x
        cases x <;> rfl
      · rfl
    · rfl
  | exit id => intro _ ρ st k; rfl
  | ret => intro _ ρ st k; rfl
  | rangeFunc g ps assign body _ _ =>
    intro hK ρ st k
    simp only [evC]
    split
    · rename_i key site hrng
      split
      · rename_i gf caps hg
        split
        · rename_i F hF
          split
          · rw [evX_bind (hN.2.1 _ F hF), evX_bind (hN.2.1 _ F hF) (y := fun e => if freshB site e (site :: st.used) then (apply site none e ⟨st.tm, setRow st.rows site (rngRow key st), site :: st.used⟩).force fun st2 => rngEnd site st2 (fun st' => some (Ex.normal, st')) else none)]
            cases evX site F (.own site :: caps) (setRow st.rows site (rngRow key st)) some with
            | none => rfl
            | some e =>
              simp only [Option.bind_some]
              split
              · rw [St.force_eq, St.force_eq]
                unfold rngEnd
                split <;> rfl
              · rfl
          · rfl
        · rfl
      · rfl
    · rfl
  | scope b _ => intro _ ρ st k; rfl
  | goto l => intro _ ρ st k; rfl
  | refuse why => intro _ ρ st k; rfl

/-- What follows a round. -/
def after (l : Loop) (μ : List AV → List (Option Row) → Nat) (m : Nat) {ρ : Type} (k : Ex → List AV → List (Option Row) → Option ρ) (e : Ex) (st : St) : Option ρ :=
  if Nat.beq st.tm.length l.N.len then (norm l.N st).force fun st1 => (match e with
    | .normal => bif decide (μ (valsOf l.N st1) (rowsN l.N st1) < m) then l.L ρ (valsOf l.N st1) (rowsN l.N st1) k else none
    | e => k e (valsOf l.N st1) (rowsN l.N st1)) else none

theorem loopOK_of (hN : NatOK Γ) (hfk : Γ.fork = false) {b : Code} {l : Loop} (hK : KOK P Γ K b) (μ : List AV → List (Option Row) → Nat)
    (hround : ∀ (ρ : Type) (vs : List AV) (rs : List (Option Row)) (k : Ex → List AV → List (Option Row) → Option ρ) (r : ρ), l.L ρ vs rs k = some r → evC P Γ K b ρ (expand l.N vs rs) (after l μ (μ vs rs) k) = some r)
    (hnat : ∀ (ρ : Type) (vs : List AV) (rs : List (Option Row)) (k : Ex → List AV → List (Option Row) → Option ρ), l.L ρ vs rs k = (l.L (Ex × List AV × List (Option Row)) vs rs fun e v x => some (e, v, x)).bind fun q => k q.1 q.2.1 q.2.2) : LoopOK P Γ K b l := by
  refine ⟨?_, hnat⟩
  intro ρ vs rs k r h
  generalize hm : μ vs rs = m
  induction m using Nat.strongRecOn generalizing vs rs with
  | ind m ih =>
    subst hm
    have h1 := hround ρ vs rs k r h
    rw [evC_bind hN hfk b hK] at h1
    cases hb : evC P Γ K b (Ex × St) (expand l.N vs rs) fun e st' => some (e, st') with
    | none => rw [hb] at h1; cases h1
    | some q =>
      rw [hb, Option.bind_some] at h1
      obtain ⟨e, st'⟩ := q
      unfold after at h1
      split at h1
      · rename_i hlen
        rw [St.force_eq] at h1
        have fin : ∀ (e' : Ex), e' ≠ .normal → e = e' → k e' (valsOf l.N (norm l.N st')) (rowsN l.N (norm l.N st')) = some r → ∃ m p, iter l.N (fun st => evC P Γ K b (Ex × St) st fun e st' => some (e, st')) m vs rs = some p ∧ k p.1 p.2.1 p.2.2 = some r := by
          intro e' hne he hk
          subst he
          refine ⟨1, (e, valsOf l.N (norm l.N st'), rowsN l.N (norm l.N st')), ?_, hk⟩
          cases e with
          | normal => exact absurd rfl hne
          | exit i => simp only [iter, hb, hlen, if_true]
          | ret => simp only [iter, hb, hlen, if_true]
        cases e with
        | normal =>
          obtain ⟨hlt, h2⟩ := bif_some h1
          have hlt' := of_decide_eq_true hlt
          obtain ⟨m, p, i1, i2⟩ := ih _ hlt' _ _ h2 rfl
          exact ⟨m + 1, p, by simp only [iter, hb, hlen, if_true]; exact i1, i2⟩
        | exit i => exact fin _ (by simp) rfl h1
        | ret => exact fin _ (by simp) rfl h1
      · cases h1

theorem finish_bind {ρ : Type} (fn : Func) (st : St) (k : AV → Option ρ) : finish P fn st k = (finish P fn st some).bind k := by
  rw [finish_eq, finish_eq]
  unfold finish0
  repeat' split
  all_goals rfl
theorem snat_evF (hN : NatOK Γ) (hfk : Γ.fork = false) {fn : Func} (hK : ∀ c, fn.body = some c → KOK P Γ K c) : SNat (evF P Γ K fn) := by
  intro ρ avs k
  unfold evF
  split
  · rfl
  · rename_i c hc
    rw [St.force_eq, St.force_eq]
    refine Eq.trans (evC_bind hN hfk c (hK c hc) ρ _ _) (Eq.symm (Eq.trans (congrArg (fun o => Option.bind o _) (evC_bind hN hfk c (hK c hc) AV _ _)) ?_))
    cases evC P Γ K c (Ex × St) (St.mk (avs ++ List.replicate (fn.ntmps - avs.length) .undef) [] []) fun e st' => some (e, st') with
    | none => rfl
    | some p =>
      obtain ⟨e, st'⟩ := p
      cases e with
      | normal => exact (finish_bind fn st' k).symm
      | ret => exact (finish_bind fn st' k).symm
      | exit i => rfl
/-- A function is taken as its text says. -/
theorem sumOK_inline (hΓ : GOK P Γ) (hD : DrawOK P Γ) {f : FuncId} {fn : Func} (hfn : P.funcs[f]? = some fn) (hK : ∀ c, fn.body = some c → KOK P Γ K c) (hrg : Γ.rng = none := by rfl) : SumOK P f (evF P Γ K fn) :=
  sumOK_of hΓ hD hfn (fun _ _ _ _ h => ⟨K, hK, h⟩) hrg

theorem finishX_bind {ρ : Type} (fn : Func) (np : Nat) (st : St) (k : AV → List (Option Row) → List Row → Option ρ) : finishX P fn np st k = (finishX P fn np st fun v p n => some (v, p, n)).bind fun x => k x.1 x.2.1 x.2.2 := by
  unfold finishX
  split
  · rfl
  · split
    · rfl
    · simp only
      split
      · rfl
      · split <;> rfl
theorem homes_bind {ρ σ : Type} (k : St → Option ρ) (k' : St → Option σ) (g : σ → Option ρ) (h : ∀ st, k st = (k' st).bind g) : ∀ (H : List (Nat × Nat × TypeId)) (st : St), homes H st k = (homes H st k').bind g
  | [], st => h st
  | x :: H, st => by
    have ih := homes_bind k k' g h H
    simp only [homes, homeK]
    repeat' split
    all_goals first | exact ih _ | (generalize Nat.ble _ _ = c; cases c <;> first | rfl | exact ih _)
theorem xnat_evFX (hN : NatOK Γ) (hfk : Γ.fork = false) {fn : Func} (H : List (Nat × Nat × TypeId)) (hK : ∀ c, fn.body = some c → KOK P Γ K c) : XNat (evFX P Γ K H fn) := by
  intro ρ avs rows k
  unfold evFX
  split
  · rfl
  · rename_i c hc
    rw [St.force_eq, St.force_eq]
    refine Eq.trans (evC_bind hN hfk c (hK c hc) ρ _ _) (Eq.symm (Eq.trans (congrArg (fun o => Option.bind o _) (evC_bind hN hfk c (hK c hc) _ _ _)) ?_))
    cases evC P Γ K c (Ex × St) (St.mk (avs ++ List.replicate (fn.ntmps - avs.length) .undef) (zipIds PID rows) (List.range' PID rows.length)) fun e st' => some (e, st') with
    | none => rfl
    | some p =>
      obtain ⟨e, st'⟩ := p
      cases e with
      | normal => exact (homes_bind _ _ _ (fun st => finishX_bind fn _ st k) H st').symm
      | ret => exact (homes_bind _ _ _ (fun st => finishX_bind fn _ st k) H st').symm
      | exit i => rfl

/-- A function more is known. -/
theorem GOK.cons {f : Nat} {F : Summ} (hΓ : GOK P Γ) (hF : SumOK P f F) (hn : SNat F) : GOK P { Γ with pure := (f, F) :: Γ.pure } := by
  refine ⟨fun g G h => ?_, fun g G h => ?_, hΓ.opens, hΓ.nat, hΓ.yld⟩
  · simp only [find, findIn] at h
    split at h
    · rename_i e; cases h; subst e; exact hF
    · exact hΓ.pure g G h
  · simp only [find, findIn] at h
    split at h
    · cases h; exact hn
    · exact hΓ.snat g G h
theorem GOK.consX {f : Nat} {F : SummX} (hΓ : GOK P Γ) (hF : XOK P f F) (hn : XNat F) : GOK P { Γ with opens := (f, F) :: Γ.opens } := by
  refine ⟨hΓ.pure, hΓ.snat, fun g G h => ?_, fun g G h => ?_, hΓ.yld⟩
  · simp only [findX, findIn] at h
    split at h
    · rename_i e; cases h; subst e; exact hF
    · exact hΓ.opens g G h
  · simp only [findX, findIn] at h
    split at h
    · cases h; exact hn
    · exact hΓ.nat g G h
theorem GOK.empty : GOK P { pure := [] } := ⟨fun _ _ h => (by cases h), fun _ _ h => (by cases h), fun _ _ h => (by cases h), fun _ _ h => (by cases h), fun _ _ _ h => (by cases h)⟩
theorem GOK.flags {t fk cv hl : Bool} {e : List Nat} {rg : Option (Int × Nat)} (hΓ : GOK P Γ) : GOK P { Γ with tmpX := t, ext := e, fork := fk, conv := cv, hole := hl, rng := rg } := ⟨hΓ.pure, hΓ.snat, hΓ.opens, hΓ.nat, hΓ.yld⟩
/-- The function that a loop hands over. -/
theorem GOK.yields {key : Int} {np : Nat} {F : SummX} (hΓ : GOK P Γ) (hn : np = (loopCode key).1.size) (h : YOK P key F ∧ XNat F) : GOK P { Γ with yld := some (key, np, F) } := ⟨hΓ.pure, hΓ.snat, hΓ.opens, hΓ.nat, fun key' np' F' e => by cases e; exact ⟨hn, h.1, h.2⟩⟩

theorem KOK.nil {c : Code} (h : loopsOf c = []) : KOK P Γ K c := fun b hb => by rw [h] at hb; cases hb
theorem KOK.one {c b : Code} {l : Loop} (h : loopsOf c = [b]) (hf : findIn K (firstRegion b) = some l) (hl : LoopOK P Γ K b l) : KOK P Γ K c := fun b' hb' l' hl' => by
  rw [h] at hb'
  simp at hb'
  subst hb'
  rw [hf] at hl'
  cases hl'
  exact hl
theorem KOK.all {c : Code} {bs : List Code} (h : loopsOf c = bs) (hl : ∀ b ∈ bs, ∃ l, findIn K (firstRegion b) = some l ∧ LoopOK P Γ K b l) : KOK P Γ K c := fun b hb l hf => by
  rw [h] at hb
  obtain ⟨l', h1, h2⟩ := hl b hb
  rw [h1] at hf
  cases hf
  exact h2
end nat
end Go.Ev

/-
  Calls that the model answers itself: two strings compared, two slices that do not overlap.
-/
namespace Go.Ev
open Go.RowKit

/-- What strings.Compare returns. -/
def cmpS (a b : List UInt8) : Int := Lib.compareBytes a b
def Fcmp : Summ := fun _ avs k => match avs with
  | [.str a, .str b] => k (.int .i64 (cmpS a b))
  | _ => none
theorem snat_cmp : SNat Fcmp := fun ρ avs k => by unfold Fcmp; split <;> rfl
theorem noBody {P : Program} {f : FuncId} {fn : Func} (hfn : P.funcs[f]? = some fn) (hb : fn.body.isNone = true) : hasBody P f = false := by
  unfold hasBody
  rw [hfn]
  cases h : fn.body <;> simp_all
theorem cmp_ok {P : Program} {f : FuncId} {fn : Func} (hfn : P.funcs[f]? = some fn) (hname : (fn.name == "runtime.NumGoroutine") = false) (hb : fn.body.isNone = true) (hn : Extern.findNext fn = none) (he : Extern.find fn = some Extern.BytealgCompare.compare) : SumOK P f Fcmp ∧ SNat Fcmp := by
  refine ⟨fun ρ w S avs args k r hS hv h => ?_, snat_cmp⟩
  unfold Fcmp at h
  split at h
  · rename_i a b
    obtain ⟨v, vs, rfl, h1, hv⟩ := hv.inv
    obtain ⟨u, us, rfl, h2, hv⟩ := hv.inv
    obtain rfl := hv.inv_nil
    rw [h1.str_inv, h2.str_inv]
    refine .inr ⟨noBody hfn hb, .int .i64 (cmpS a b), w, ?_, ⟨_, _, fun _ => False, rfl, h, Below.refl _ _, fun _ h => h.elim, fun _ h => h.elim, .int _ _ _⟩⟩
    rw [run_callFunc_extern hfn hname hb hn he]
    show ((Extern.BytealgCompare.compare #[.string ⟨a.toArray⟩, .string ⟨b.toArray⟩]).run P w).andThen _ = _
    rw [Lib.run_compareString]
    rfl
  · cases h

/-- Two slices of the caller's own, in two rows. -/
def Fover : SummX := fun _ avs rows k => match avs, rows with
  | [.own p, .sub q lo len], [.arr false s e es sp, .arr false s' e' es' sp'] =>
    bif Nat.beq p PID && (Nat.beq q (PID + 1) && (decide (lo + len ≤ es'.length) && (!isB s && !isB s'))) then k (.bool false) [some (.arr false s e es sp), some (.arr false s' e' es' sp')] [] else none
  | _, _ => none
theorem xnat_over : XNat Fover := fun ρ avs rows k => by
  unfold Fover
  split
  · rename_i p q lo len s e es sp s' e' es' sp'
    generalize (Nat.beq p PID && (Nat.beq q (PID + 1) && (decide (lo + len ≤ es'.length) && (!isB s && !isB s')))) = c
    cases c <;> rfl
  · rfl
theorem run_overlaps_zero {P : Program} (w : World) (tS tR e : TypeId) (ht : P.underlying tS = some (.slice e)) (size : Nat) (hz : ∀ w, (Go.sizeOf e).run P w = .ok size w)
    (a b : Option Addr) (la ca lb cb : Nat) (h0 : la = 0 ∨ lb = 0) :
    (Extern.SlicesOverlaps.overlaps #[tS, tS] #[tR] #[.slice a la ca, .slice b lb cb]).run P w = .ok (.bool false) w := by
  have h0' : la = 0 ∨ lb = 0 ∨ size = 0 := h0.elim .inl fun h => .inr (.inl h)
  change Sem.run P (α := Value) (do
    let some t := (#[tS, tS] : Array TypeId)[0]? | stuck "slices.overlaps: no parameter types"
    let .slice elem ← underlying t | stuck "slices.overlaps: slice type expected"
    let size ← sizeOf elem
    match a, b with
    | some a, some b =>
      if la = 0 ∨ lb = 0 ∨ size = 0 then pure (Value.bool false)
      else if a.block != b.block && (← frozen a) && (← frozen b) then unsupported .addressObserved
      else do
        if a.block != b.block then do
          noView a; noView b
          if ← mayBeOne a b then return Value.bool ((← choose (.extern "sameAddr.stringBytes" 2)) == 1)
        pure (Value.bool (a.block == b.block && a.off < b.off + lb * size && b.off < a.off + la * size))
    | _, _ => pure (Value.bool false)) w = _
  cases a with
  | none => simp [run_underlying ht, hz]
  | some a =>
    cases b with
    | none => simp [run_underlying ht, hz]
    | some b => simp [run_underlying ht, hz, h0']
theorem over_ok {P : Program} {f : FuncId} {fn : Func} {tS tR e0 : TypeId} {i : TypeInfo} (hfn : P.funcs[f]? = some fn) (hname : (fn.name == "runtime.NumGoroutine") = false) (hb : fn.body.isNone = true) (hn : Extern.findNext fn = none) (he : Extern.find fn = some (Extern.SlicesOverlaps.overlaps #[tS, tS] #[tR]))
    (ht : P.underlying tS = some (.slice e0)) (hi : P.info? e0 = some i) : XOK P f Fover ∧ XNat Fover := by
  refine ⟨fun ρ w S B β og avs rows args k r hH hSB hdom hv h => ?_, xnat_over⟩
  unfold Fover at h
  split at h
  · rename_i p q lo len s e es sp s' e' es' sp'
    obtain ⟨hc, hk⟩ := bif_some h
    clear h
    simp only [Bool.and_eq_true, decide_eq_true_eq, Bool.not_eq_true'] at hc
    obtain ⟨hp, hq, hll, hnb⟩ := hc
    obtain rfl := Nat.eq_of_beq_eq_true hp
    obtain rfl := Nat.eq_of_beq_eq_true hq
    obtain ⟨v, vs, rfl, h1, hv⟩ := hv.inv
    obtain ⟨u, us, rfl, h2, hv⟩ := hv.inv
    obtain rfl := hv.inv_nil
    have hr0 := hH.row PID (.arr false s e es sp) (by simp [zipIds, lookup])
    have hr1 := hH.row (PID + 1) (.arr false s' e' es' sp') (by simp [zipIds, lookup])
    have hafter : After w S B β [some (.arr false s e es sp), some (.arr false s' e' es' sp')] [] (.bool false) (.bool false) w S β og :=
      ⟨Kept.refl _ _, fun _ h => h, fun _ h => .inl h, .bool _ _, fun j r hj => by
        match j with
        | 0 => simp at hj; subst hj; exact hr0
        | 1 => simp at hj; subst hj; exact hr1
        | j + 2 => simp at hj, fun j r hj => by simp at hj, hH.inj, hH.lt, hH.one, hH.Slt, fun _ _ _ h => h⟩
    refine .inr ⟨noBody hfn hb, .bool false, w, ?_, ⟨_, _, _, _, S, β, og, rfl, hk, hafter⟩⟩
    rw [run_callFunc_extern hfn hname hb hn he]
    have hz : ∀ w, (Go.sizeOf e0).run P w = .ok (P.cellsOf e0) w := fun w => run_sizeOf w hi
    have key : (Extern.SlicesOverlaps.overlaps #[tS, tS] #[tR] #[v, u]).run P w = .ok (.bool false) w := by
      obtain ⟨hw0, v0, sp0, xs0, hs0, _, hb0, _, hx0', hor0⟩ := hr0
      obtain ⟨hw1, v1, sp1, xs1, hs1, _, hb1, _, hx1, hor1⟩ := hr1
      cases h1 with
      | own _ _ _ wd hbt =>
        rw [hbt] at hb0
        cases hb0
        cases h2 with
        | sub _ _ _ _ A n c wd' hbt' =>
          rw [hbt'] at hb1
          cases hb1
          rcases hor0 with ⟨rfl, rfl, _, A0, rfl⟩ | ⟨g0, hg0, rfl, _, hh0, _, _, _⟩
          · exact run_overlaps_zero w tS tR e0 ht _ hz _ _ _ _ _ _ (.inl rfl)
          · rcases hor1 with ⟨rfl, rfl, _, A1, _⟩ | ⟨g1, hg1, hv1, _, hh1, _, _, _⟩
            · exact run_overlaps_zero w tS tR e0 ht _ hz _ _ _ _ _ _ (.inr (by simp at hll; omega))
            · by_cases hl0 : len = 0
              · exact run_overlaps_zero w tS tR e0 ht _ hz _ _ _ _ _ _ (.inr hl0)
              · cases hv1
                have p0 : ∃ fz : Nat × Nat, fz = (0, 0) ∧ w.heap[g0]? = some (.cells xs0.toArray e fz) := hh0.elim fun fz h => ⟨fz, h.1.resolve_right (fun h => by rw [hnb.1] at h; cases h.1), h.2⟩
                have p1 : ∃ fz : Nat × Nat, fz = (0, 0) ∧ w.heap[g1]? = some (.cells xs1.toArray e' fz) := hh1.elim fun fz h => ⟨fz, h.1.resolve_right (fun h => by rw [hnb.2] at h; cases h.1), h.2⟩
                obtain ⟨_, rfl, hh0⟩ := p0
                obtain ⟨_, rfl, hh1⟩ := p1
                have hne : g0 ≠ g1 := fun hg => by
                  rw [hg, ← hg1] at hg0
                  have := hH.inj PID (PID + 1) g1 (by rw [hg0, hg1]) hg1
                  omega
                have hx : xs1.length ≠ 0 := by
                  have e1 := hx1.1
                  rw [flat_length _ hs1, List.length_append] at e1
                  rw [e1]
                  exact Nat.ne_of_gt (Nat.mul_pos (by omega) hw1)
                have hcl : ¬ es'.length + sp1.length = lo := by omega
                rw [if_neg hcl]
                refine Lib.run_overlaps_apart w tS tR e0 ht _ hz ⟨g0, 0, none⟩ (Addr.add ⟨g1, 0, none⟩ (lo * s'.width)) _ _ _ _ ?_ e e' xs0.length xs1.length ?_ ?_ hx ?_ ?_
                · rw [add_block]; exact hne
                · simp [World.shape?, hh0]
                · rw [add_block]; simp [World.shape?, hh1]
                · simp [World.frozen?, hh0]
                · simp [World.frozen?, hh0]
    show ((Extern.SlicesOverlaps.overlaps #[tS, tS] #[tR] #[v, u]).run P w).andThen _ = _
    rw [key]
    rfl
  · cases h

end Go.Ev

/-
  Small helps for a seat's program.
-/
namespace Go.Proofs.YtghinideddfcpaaDoor
open Go.Ev


theorem hmix : Tryd.prog.follows .mixedOrders = true := by kernel_rfl
theorem inl {Γ : Env} (hΓ : GOK Tryd.prog Γ) {f : Nat} {fn : Func} (hfn : Tryd.prog.funcs[f]? = some fn) (hl : fn.body.map loopsOf = some []) (hfk : Γ.fork = false := by rfl) (hrg : Γ.rng = none := by rfl) : SumOK Tryd.prog f (evF Tryd.prog Γ [] fn) ∧ SNat (evF Tryd.prog Γ [] fn) := by
  have hK : ∀ c, fn.body = some c → KOK Tryd.prog Γ [] c := fun c hc => KOK.nil (by rw [hc] at hl; simpa using hl)
  exact ⟨sumOK_inline hΓ (drawOK hΓ hmix) hfn hK hrg, snat_evF hΓ.natOK hfk hK⟩
/-- A function by what it comes to, its text has no loop. -/
theorem sum0 {Γ : Env} (hΓ : GOK Tryd.prog Γ) {f : Nat} {fn : Func} (hfn : Tryd.prog.funcs[f]? = some fn) (hl : fn.body.map loopsOf = some []) {F : Summ} (hF : ∀ ρ avs k r, F ρ avs k = some r → evF Tryd.prog Γ [] fn ρ avs k = some r) (hrg : Γ.rng = none := by rfl) : SumOK Tryd.prog f F :=
  sumOK_of hΓ (drawOK hΓ hmix) hfn (fun ρ avs k r h => ⟨[], fun c hc => KOK.nil (by rw [hc] at hl; simpa using hl), hF ρ avs k r h⟩) hrg
theorem GOK.also {Γ : Env} {f : Nat} {F : Summ} (hΓ : GOK Tryd.prog Γ) (h : SumOK Tryd.prog f F ∧ SNat F) : GOK Tryd.prog { Γ with pure := (f, F) :: Γ.pure } := hΓ.cons h.1 h.2
theorem GOK.alsoX {Γ : Env} {f : Nat} {F : SummX} (hΓ : GOK Tryd.prog Γ) (h : XOK Tryd.prog f F ∧ XNat F) : GOK Tryd.prog { Γ with opens := (f, F) :: Γ.opens } := hΓ.consX h.1 h.2
/-- A function with one loop. -/
theorem sum1 {Γ : Env} {K : List (Nat × Ev.Loop)} (hΓ : GOK Tryd.prog Γ) {f : Nat} {fn : Func} (hfn : Tryd.prog.funcs[f]? = some fn) {b : Code} {l : Ev.Loop} (hl : fn.body.map loopsOf = some [b]) (hf : findIn K (firstRegion b) = some l) (hL : LoopOK Tryd.prog Γ K b l)
    {F : Summ} (hF : ∀ ρ avs k r, F ρ avs k = some r → evF Tryd.prog Γ K fn ρ avs k = some r) (hrg : Γ.rng = none := by rfl) : SumOK Tryd.prog f F :=
  sumOK_of hΓ (drawOK hΓ hmix) hfn (fun ρ avs k r h => ⟨K, fun c hc => KOK.one (by rw [hc] at hl; simpa using hl) hf hL, hF ρ avs k r h⟩) hrg
/-- A function with some loops. -/
theorem sums {Γ : Env} {K : List (Nat × Ev.Loop)} (hΓ : GOK Tryd.prog Γ) {f : Nat} {fn : Func} (hfn : Tryd.prog.funcs[f]? = some fn) {bs : List Code} (hl : fn.body.map loopsOf = some bs) (hL : ∀ b ∈ bs, ∃ l, findIn K (firstRegion b) = some l ∧ LoopOK Tryd.prog Γ K b l)
    {F : Summ} (hF : ∀ ρ avs k r, F ρ avs k = some r → evF Tryd.prog Γ K fn ρ avs k = some r) (hrg : Γ.rng = none := by rfl) : SumOK Tryd.prog f F :=
  sumOK_of hΓ (drawOK hΓ hmix) hfn (fun ρ avs k r h => ⟨K, fun c hc => KOK.all (by rw [hc] at hl; simpa using hl) hL, hF ρ avs k r h⟩) hrg
theorem xsums {Γ : Env} {K : List (Nat × Ev.Loop)} {H : List (Nat × Nat × TypeId)} (hΓ : GOK Tryd.prog Γ) {f : Nat} {fn : Func} (hfn : Tryd.prog.funcs[f]? = some fn) {bs : List Code} (hl : fn.body.map loopsOf = some bs) (hL : ∀ b ∈ bs, ∃ l, findIn K (firstRegion b) = some l ∧ LoopOK Tryd.prog Γ K b l)
    {F : SummX} (hF : ∀ ρ avs rows k r, F ρ avs rows k = some r → rows.length ≤ 1000000 ∧ ∀ rows', Spared rows rows' → evFX Tryd.prog Γ K H fn ρ avs rows' k = some r) (hrg : Γ.rng = none := by rfl) : XOK Tryd.prog f F :=
  xok_of hΓ (drawOK hΓ hmix) hfn (fun ρ avs rows k r h => ⟨(hF ρ avs rows k r h).1, fun rows' hs => ⟨K, H, fun c hc => KOK.all (by rw [hc] at hl; simpa using hl) hL, (hF ρ avs rows k r h).2 rows' hs⟩⟩) hrg
theorem xsum1 {Γ : Env} {K : List (Nat × Ev.Loop)} {H : List (Nat × Nat × TypeId)} (hΓ : GOK Tryd.prog Γ) {f : Nat} {fn : Func} (hfn : Tryd.prog.funcs[f]? = some fn) {b : Code} {l : Ev.Loop} (hl : fn.body.map loopsOf = some [b]) (hf : findIn K (firstRegion b) = some l) (hL : LoopOK Tryd.prog Γ K b l)
    {F : SummX} (hF : ∀ ρ avs rows k r, F ρ avs rows k = some r → rows.length ≤ 1000000 ∧ ∀ rows', Spared rows rows' → evFX Tryd.prog Γ K H fn ρ avs rows' k = some r) (hrg : Γ.rng = none := by rfl) : XOK Tryd.prog f F :=
  xok_of hΓ (drawOK hΓ hmix) hfn (fun ρ avs rows k r h => ⟨(hF ρ avs rows k r h).1, fun rows' hs => ⟨K, H, fun c hc => KOK.one (by rw [hc] at hl; simpa using hl) hf hL, (hF ρ avs rows k r h).2 rows' hs⟩⟩) hrg
theorem xsum0 {Γ : Env} {H : List (Nat × Nat × TypeId)} (hΓ : GOK Tryd.prog Γ) {f : Nat} {fn : Func} (hfn : Tryd.prog.funcs[f]? = some fn) (hl : fn.body.map loopsOf = some [])
    {F : SummX} (hF : ∀ ρ avs rows k r, F ρ avs rows k = some r → rows.length ≤ 1000000 ∧ ∀ rows', Spared rows rows' → evFX Tryd.prog Γ [] H fn ρ avs rows' k = some r) (hrg : Γ.rng = none := by rfl) : XOK Tryd.prog f F :=
  xok_of hΓ (drawOK hΓ hmix) hfn (fun ρ avs rows k r h => ⟨(hF ρ avs rows k r h).1, fun rows' hs => ⟨[], H, fun c hc => KOK.nil (by rw [hc] at hl; simpa using hl), (hF ρ avs rows k r h).2 rows' hs⟩⟩) hrg

end Go.Proofs.YtghinideddfcpaaDoor

/-
  The first element that meets a test, from a place on.
-/
namespace Go.Ev

def findFrom (p : AV → Bool) (es : List AV) (i : Nat) : Option Nat := ((es.drop i).findIdx? p).map (· + i)
def idxZ : Option Nat → Int
  | some j => j
  | none => -1
theorem findFrom_step (p : AV → Bool) (es : List AV) (i : Nat) (h : i < es.length) : findFrom p es i = bif p (es.getD i .unk) then some i else findFrom p es (i + 1) := by
  unfold findFrom
  rw [List.drop_eq_getElem_cons h, List.findIdx?_cons]
  have e : es.getD i .unk = es[i] := by simp [List.getD, h]
  rw [e]
  cases p es[i] with
  | true => simp
  | false => simp only [Bool.false_eq_true, if_false, cond_false, Option.map_map]; congr 1; funext j; simp; omega
theorem findFrom_end (p : AV → Bool) (es : List AV) (i : Nat) (h : es.length ≤ i) : findFrom p es i = none := by
  unfold findFrom
  rw [List.drop_of_length_le h]
  rfl
theorem wrap_small (n : Int) (h : -9223372036854775808 ≤ n) (h' : n ≤ 9223372036854775807) : IntKind.i64.wrap n = n := IntWalk.i64_in n ⟨h, h'⟩
theorem wrap_mid (n : Int) (h : -1000000000000 ≤ n) (h' : n ≤ 1000000000000) : IntKind.i64.wrap n = n := wrap_small n (Int.le_trans (by decide) h) (Int.le_trans h' (by decide))
/-- Small enough that no count of it passes the integers. -/
def small (n : Nat) : Bool := decide (n ≤ 9223372036854775807)
theorem small_le {n : Nat} (h : small n = true) : n ≤ 9223372036854775807 := of_decide_eq_true h
theorem tdiv_cases (a b : Int) : (0 ≤ a ∧ a.tdiv b = a / b) ∨ (a < 0 ∧ a.tdiv b = -((-a) / b)) := by
  rcases Int.lt_or_le a 0 with h | h
  · refine .inr ⟨h, ?_⟩
    rw [← Int.tdiv_eq_ediv_of_nonneg (by omega : 0 ≤ -a), Int.neg_tdiv, Int.neg_neg]
  · exact .inl ⟨h, Int.tdiv_eq_ediv_of_nonneg h⟩
theorem inb_true {i : Int} {n : Nat} (h0 : 0 ≤ i) (h : i < n) : inb i n = true := by simp [inb, h0, h]

theorem and_tt {a b : Bool} (h : a = true) (h' : b = true) : (a && b) = true := by rw [h, h']; rfl
theorem findFrom_none {p : AV → Bool} {es : List AV} (h : findFrom p es 0 = none) : ∀ x ∈ es, p x = false := by
  unfold findFrom at h
  rw [List.drop_zero] at h
  simpa using h
theorem findFrom_some {p : AV → Bool} {es : List AV} {i : Nat} (h : findFrom p es 0 = some i) : ∃ hi : i < es.length, p es[i] = true ∧ ∀ j (hj : j < i), p (es[j]'(by omega)) = false := by
  unfold findFrom at h
  rw [List.drop_zero] at h
  simp only [Option.map_eq_some_iff, Nat.add_zero, exists_eq_right] at h
  obtain ⟨h1, h2, h3⟩ := List.findIdx?_eq_some_iff_getElem.1 h
  exact ⟨h1, h2, fun j hj => by simpa using h3 j hj⟩
theorem filter_first {p : AV → Bool} {es : List AV} {i : Nat} (h : findFrom p es 0 = some i) : es.filter (fun x => !p x) = es.take i ++ (es.drop (i + 1)).filter (fun x => !p x) := by
  obtain ⟨hi, h1, h2⟩ := findFrom_some h
  conv => lhs; rw [← List.take_append_drop i es, List.drop_eq_getElem_cons hi]
  rw [List.filter_append, List.filter_cons, h1]
  have : (es.take i).filter (fun x => !p x) = es.take i := by
    rw [List.filter_eq_self]
    intro x hx
    obtain ⟨j, hj, he⟩ := List.getElem_of_mem hx
    have hj' : j < i := by simp at hj; omega
    rw [List.getElem_take] at he
    rw [← he, h2 j hj']
    rfl
  rw [this]
  rfl
/-- The first number from i on, below n, that meets a test. -/
def findN (p : Nat → Bool) (n i : Nat) : Option Nat := (List.range' i (n - i)).find? p
theorem findN_step (p : Nat → Bool) (n i : Nat) (h : i < n) : findN p n i = bif p i then some i else findN p n (i + 1) := by
  unfold findN
  rw [show n - i = (n - (i + 1)) + 1 from by omega, List.range'_succ, List.find?_cons]
  cases p i <;> rfl
theorem findN_end (p : Nat → Bool) (n i : Nat) (h : n ≤ i) : findN p n i = none := by
  unfold findN
  rw [show n - i = 0 from by omega]
  rfl
theorem findN_some {p : Nat → Bool} {n i q : Nat} (h : findN p n i = some q) : i ≤ q ∧ q < n ∧ p q = true ∧ ∀ j, i ≤ j → j < q → p j = false := by
  unfold findN at h
  obtain ⟨h1, ys, bs, h2, h3⟩ := List.find?_eq_some_iff_append.1 h
  have hm : q ∈ List.range' i (n - i) := by rw [h2]; simp
  rw [List.mem_range'_1] at hm
  refine ⟨hm.1, by omega, h1, fun j hj hjq => ?_⟩
  have hl := congrArg List.length h2
  have hq : (List.range' i (n - i))[ys.length]? = some q := by rw [h2]; simp
  have hal : ys.length < n - i := by
    rw [List.length_range', List.length_append, List.length_cons] at hl
    omega
  have hlen : ys.length = q - i := by
    rw [List.getElem?_range' hal] at hq
    simp at hq
    omega
  have hj2 : (List.range' i (n - i))[j - i]? = ys[j - i]? := by rw [h2, List.getElem?_append_left (by omega)]
  rw [List.getElem?_range' (by omega)] at hj2
  have hmem : j ∈ ys := List.mem_of_getElem? (i := j - i) (by rw [← hj2]; congr 1; omega)
  simpa using h3 j hmem
theorem findN_none {p : Nat → Bool} {n i : Nat} (h : findN p n i = none) : ∀ j, i ≤ j → j < n → p j = false := by
  unfold findN at h
  intro j hj hn
  have := List.find?_eq_none.1 h j (by rw [List.mem_range'_1]; omega)
  simpa using this
theorem findN_of_none {p : Nat → Bool} {n i : Nat} (h : ∀ j, i ≤ j → j < n → p j = false) : findN p n i = none := by
  unfold findN
  rw [List.find?_eq_none]
  intro j hj
  rw [List.mem_range'_1] at hj
  simp [h j hj.1 (by omega)]
theorem findN_congr {p q : Nat → Bool} {n i : Nat} (h : ∀ j, i ≤ j → j < n → p j = q j) : findN p n i = findN q n i := by
  generalize hm : n - i = m
  induction m generalizing i with
  | zero => rw [findN_end p n i (by omega), findN_end q n i (by omega)]
  | succ m ih => rw [findN_step p n i (by omega), findN_step q n i (by omega), h i (Nat.le_refl _) (by omega), ih (fun j hj hn => h j (by omega) hn) (by omega)]
/-- A loop that looks for a place, by what it comes to. -/
def sF {ρ : Type} (p : Nat → Bool) (n : Nat) (A : Nat → Option ρ) (B : Option ρ) (j : Nat) : Option ρ := bif (findN p n j).isSome then A ((findN p n j).getD 0) else B
theorem sF_step {ρ : Type} (p : Nat → Bool) (n : Nat) (A : Nat → Option ρ) (B : Option ρ) (j : Nat) (h : j < n) : sF p n A B j = bif p j then A j else sF p n A B (j + 1) := by
  unfold sF
  rw [findN_step p n j h]
  cases p j <;> rfl
theorem sF_end {ρ : Type} (p : Nat → Bool) (n : Nat) (A : Nat → Option ρ) (B : Option ρ) : sF p n A B n = B := by
  unfold sF
  rw [findN_end p n n (Nat.le_refl _)]
  rfl
theorem sF_bind {ρ σ : Type} (p : Nat → Bool) (n : Nat) (A : Nat → Option ρ) (B : Option ρ) (A' : Nat → Option σ) (B' : Option σ) (k : σ → Option ρ) (j : Nat) (hA : ∀ q, A q = (A' q).bind k) (hB : B = B'.bind k) : sF p n A B j = (sF p n A' B' j).bind k := by
  unfold sF
  cases (findN p n j).isSome
  · exact hB
  · exact hA _
theorem sF_ok {ρ : Type} {p : Nat → Bool} {n j : Nat} {A : Nat → Option ρ} {B T : Option ρ} {r : ρ} (h : sF p n A B j = some r) (hj : j ≤ n) (hT : j < n → T = bif p j then A j else sF p n A B (j + 1)) : (bif decide ((j : Int) < (n : Int)) then T else B) = some r := by
  by_cases hlt : j < n
  · rw [decide_eq_true (by omega : (j : Int) < n), ← h, sF_step _ _ _ _ _ hlt]
    exact hT hlt
  · have : j = n := by omega
    subst this
    rw [decide_eq_false (by omega), ← h, sF_end]
    rfl
/-- The guard of a counting loop. -/
def cnt (n i : Int) (m : Nat) : Bool := decide (n = m) && (decide (0 ≤ i) && (decide (i ≤ n) && small m))
theorem cnt_spec {n i : Int} {m : Nat} (h : cnt n i m = true) : n = m ∧ m ≤ 9223372036854775807 ∧ ∃ j : Nat, i = j ∧ j ≤ m := by
  simp only [cnt, Bool.and_eq_true, decide_eq_true_eq] at h
  obtain ⟨rfl, h0, h1, hs⟩ := h
  exact ⟨rfl, small_le hs, i.toNat, by omega, by omega⟩
theorem cnt_next {m j : Nat} (h : j < m) (hs : m ≤ 9223372036854775807) : cnt m (IntKind.i64.wrap ((j : Int) + 1)) m = true ∧ (IntKind.i64.wrap ((j : Int) + 1)).toNat = j + 1 := by
  rw [wrap_small _ (by omega) (by omega)]
  refine ⟨and_tt (decide_eq_true rfl) (and_tt (decide_eq_true (by omega)) (and_tt (decide_eq_true (by omega)) (decide_eq_true hs))), by omega⟩
theorem cnt_dec {m j : Nat} (h : j < m) (hs : m ≤ 9223372036854775807) : decide (((m : Int) - IntKind.i64.wrap ((j : Int) + 1)).toNat < ((m : Int) - (j : Int)).toNat) = true := by
  rw [wrap_small _ (by omega) (by omega)]
  exact decide_eq_true (by omega)
theorem cnt_zero {m : Nat} (hs : small m = true) : cnt m 0 m = true := and_tt (decide_eq_true rfl) (and_tt (decide_eq_true (by omega)) (and_tt (decide_eq_true (by omega)) hs))
theorem cond_t {α : Type} {b : Bool} {x y : α} (h : b = true) : cond b x y = x := by rw [h]; rfl
theorem cond_f {α : Type} {b : Bool} {x y : α} (h : b = false) : cond b x y = y := by rw [h]; rfl
theorem sF_next {ρ : Type} {p : Nat → Bool} {A : Nat → Option ρ} {B : Option ρ} {m j : Nat} (h : j < m) (hs : m ≤ 9223372036854775807) : (bif cnt m (IntKind.i64.wrap ((j : Int) + 1)) m then sF p m A B (IntKind.i64.wrap ((j : Int) + 1)).toNat else none) = sF p m A B (j + 1) :=
  (cond_t (cnt_next h hs).1).trans (congrArg (sF p m A B) (cnt_next h hs).2)
theorem and_t {a b : Bool} (h : a = true) (h' : b = true) : (a && b) = true := by rw [h, h']; rfl

end Go.Ev

/-
  What is known of functions and loops, written as trees: then it hangs on nothing but its arguments.
-/
namespace Go.Ev

inductive Tr (α : Type) where
  | no : Tr α
  | leaf (a : α) : Tr α
  | br (c : Bool) (x y : Tr α) : Tr α
def Tr.run {α ρ : Type} (t : Tr α) (k : α → Option ρ) : Option ρ :=
  match t with
  | .no => none
  | .leaf a => k a
  | .br c x y => bif c then x.run k else y.run k
theorem Tr.run_bind {α ρ σ : Type} (f : α → Option σ) (k : σ → Option ρ) : ∀ t : Tr α, t.run (fun a => (f a).bind k) = (t.run f).bind k
  | .no => rfl
  | .leaf _ => rfl
  | .br c x y => by
    show (bif c then x.run _ else y.run _) = (bif c then x.run f else y.run f).bind k
    rw [Tr.run_bind f k x, Tr.run_bind f k y]
    cases c <;> rfl
def Tr.gd {α : Type} (c : Bool) (t : Tr α) : Tr α := .br c t .no
theorem gd_some {α ρ : Type} {c : Bool} {t : Tr α} {k : α → Option ρ} {r : ρ} (h : (Tr.gd c t).run k = some r) : c = true ∧ t.run k = some r := by
  cases c
  · cases h
  · exact ⟨rfl, h⟩
def ofT (p : List AV → Tr AV) : Summ := fun _ avs k => (p avs).run k
theorem snat_ofT (p : List AV → Tr AV) : SNat (ofT p) := fun _ avs k => Tr.run_bind (σ := AV) some k (p avs)
abbrev LOut := Ex × List AV × List (Option Row)
def ofL (p : List AV → List (Option Row) → Tr LOut) : LSumm := fun _ vs rs k => (p vs rs).run fun q => k q.1 q.2.1 q.2.2
abbrev XOut := AV × List (Option Row) × List Row
def ofX (p : List AV → List Row → Tr XOut) : SummX := fun _ avs rows k => (p avs rows).run fun q => k q.1 q.2.1 q.2.2
theorem xnat_ofX (p : List AV → List Row → Tr XOut) : XNat (ofX p) := fun _ avs rows k => Tr.run_bind (α := XOut) (σ := XOut) (fun q => some (q.1, q.2.1, q.2.2)) (fun q => k q.1 q.2.1 q.2.2) (p avs rows)
theorem loopT {P : Program} {Γ : Env} {K : List (Nat × Loop)} (hN : NatOK Γ) (hfk : Γ.fork = false) {b : Code} {N : Norm} {p : List AV → List (Option Row) → Tr LOut} (hK : KOK P Γ K b) (μ : List AV → List (Option Row) → Nat)
    (hround : ∀ (ρ : Type) (vs : List AV) (rs : List (Option Row)) (k : Ex → List AV → List (Option Row) → Option ρ) (r : ρ), (p vs rs).run (fun q => k q.1 q.2.1 q.2.2) = some r → evC P Γ K b ρ (expand N vs rs) (after ⟨N, ofL p⟩ μ (μ vs rs) k) = some r) : LoopOK P Γ K b ⟨N, ofL p⟩ :=
  loopOK_of hN hfk hK μ hround fun _ vs rs k => Tr.run_bind (α := LOut) (σ := LOut) (fun q => some (q.1, q.2.1, q.2.2)) (fun q => k q.1 q.2.1 q.2.2) (p vs rs)
/-- A loop that looks for a place. -/
def sT {α : Type} (p : Nat → Bool) (n : Nat) (A : Nat → Tr α) (B : Tr α) (j : Nat) : Tr α := .br (findN p n j).isSome (A ((findN p n j).getD 0)) B
theorem sT_step {α : Type} (p : Nat → Bool) (n : Nat) (A : Nat → Tr α) (B : Tr α) (j : Nat) (h : j < n) {ρ : Type} (k : α → Option ρ) : (sT p n A B j).run k = bif p j then (A j).run k else (sT p n A B (j + 1)).run k := by
  unfold sT
  show cond _ ((A ((findN p n j).getD 0)).run k) (B.run k) = bif p j then (A j).run k else cond _ ((A ((findN p n (j + 1)).getD 0)).run k) (B.run k)
  rw [findN_step p n j h]
  cases p j <;> rfl
theorem sT_end {α : Type} (p : Nat → Bool) (n : Nat) (A : Nat → Tr α) (B : Tr α) {ρ : Type} (k : α → Option ρ) : (sT p n A B n).run k = B.run k := by
  unfold sT
  rw [findN_end p n n (Nat.le_refl _)]
  rfl
/-- What a round of a counting loop asks. -/
theorem cnt_facts {m j : Nat} (h : j < m) (hs : m ≤ 9223372036854775807) : decide ((j : Int) < (m : Int)) = true ∧ inb (j : Int) m = true ∧ IntKind.i64.wrap ((j : Int) + 1) = ((j + 1 : Nat) : Int) ∧ cnt m ((j + 1 : Nat) : Int) m = true ∧ decide (((m : Int) - ((j + 1 : Nat) : Int)).toNat < ((m : Int) - (j : Int)).toNat) = true := by
  refine ⟨decide_eq_true (by omega), inb_true (by omega) (by omega), ?_, ?_, decide_eq_true (by omega)⟩
  · rw [wrap_small _ (by omega) (by omega)]; omega
  · exact and_tt (decide_eq_true rfl) (and_tt (decide_eq_true (by omega)) (and_tt (decide_eq_true (by omega)) (decide_eq_true hs)))
end Go.Ev
namespace Go.Proofs.YtghinideddfcpaaDoor
open Go.Ev
theorem fnT {Γ : Env} {K : List (Nat × Ev.Loop)} (hΓ : GOK Tryd.prog Γ) {f : Nat} {fn : Func} (hfn : Tryd.prog.funcs[f]? = some fn) {bs : List Code} (hl : fn.body.map loopsOf = some bs) (hL : ∀ b ∈ bs, ∃ l, findIn K (firstRegion b) = some l ∧ LoopOK Tryd.prog Γ K b l)
    {p : List AV → Tr AV} (hF : ∀ ρ avs k r, (p avs).run k = some r → evF Tryd.prog Γ K fn ρ avs k = some r) (hrg : Γ.rng = none := by rfl) : SumOK Tryd.prog f (ofT p) ∧ SNat (ofT p) :=
  ⟨sums hΓ hfn hl hL hF hrg, snat_ofT p⟩
theorem fn0 {Γ : Env} (hΓ : GOK Tryd.prog Γ) {f : Nat} {fn : Func} (hfn : Tryd.prog.funcs[f]? = some fn) (hl : fn.body.map loopsOf = some [])
    {p : List AV → Tr AV} (hF : ∀ ρ avs k r, (p avs).run k = some r → evF Tryd.prog Γ [] fn ρ avs k = some r) (hrg : Γ.rng = none := by rfl) : SumOK Tryd.prog f (ofT p) ∧ SNat (ofT p) :=
  ⟨sum0 hΓ hfn hl hF hrg, snat_ofT p⟩
theorem fn1 {Γ : Env} {K : List (Nat × Ev.Loop)} (hΓ : GOK Tryd.prog Γ) {f : Nat} {fn : Func} (hfn : Tryd.prog.funcs[f]? = some fn) {b : Code} {l : Ev.Loop} (hl : fn.body.map loopsOf = some [b]) (hf : findIn K (firstRegion b) = some l) (hL : LoopOK Tryd.prog Γ K b l)
    {p : List AV → Tr AV} (hF : ∀ ρ avs k r, (p avs).run k = some r → evF Tryd.prog Γ K fn ρ avs k = some r) (hrg : Γ.rng = none := by rfl) : SumOK Tryd.prog f (ofT p) ∧ SNat (ofT p) :=
  ⟨sum1 hΓ hfn hl hf hL hF hrg, snat_ofT p⟩
end Go.Proofs.YtghinideddfcpaaDoor

/-
  What slices.Insert of one element comes to.
-/
namespace Go.Ev

theorem roomB_small {n b : Nat} (h : n ≤ 2000000) (h' : b ≤ 1000) : roomB n b = true := by
  simp only [roomB, Bool.and_eq_true, Bool.or_eq_true, decide_eq_true_eq]
  have : n * b ≤ 2000000 * 1000 := Nat.mul_le_mul h h'
  omega
theorem slb_true {l h : Int} {m : Nat} (h0 : 0 ≤ l) (h1 : l ≤ h) (h2 : h ≤ m) : slb l h m = true := by simp [slb, h0, h1, h2]
theorem getD_eq {es : List AV} {i : Nat} (h : i < es.length) : es.getD i .unk = es[i] := by simp [List.getD, h]
theorem drop_getD {es : List AV} {i : Nat} (h : i < es.length) : es.drop i = es.getD i .unk :: es.drop (i + 1) := by rw [getD_eq h, List.drop_eq_getElem_cons h]

def spl (A B : List AV) (w : Nat) : List AV := A.take w ++ (B.take (min (A.length - w) B.length) ++ A.drop (w + min (A.length - w) B.length))
theorem spl_eq {P R B : List AV} {w : Nat} (h : P.length = w) (h' : B.length ≤ R.length) : spl (P ++ R) B w = P ++ (B ++ R.drop B.length) := by
  subst h
  unfold spl
  rw [show min ((P ++ R).length - P.length) B.length = B.length from by rw [List.length_append]; omega]
  rw [List.take_left, List.take_length, List.drop_append]
  rw [show P.length + B.length - P.length = B.length from by omega, List.drop_of_length_le (by omega : P.length ≤ P.length + B.length)]
  rfl
/-- The text of slices.Insert with one new element, evaluated; K: what is made of the new list. -/
def insTree {ρ : Type} (es sp : List AV) (x z : AV) (i bytes : Nat) (K : List AV → Option ρ) : Option ρ :=
  bif slb (i : Int) (es.length : Int) es.length then
    bif (i : Int) == (es.length : Int) then bif roomB (es.length + 1) bytes then K (es ++ [x]) else none else
    bif decide (IntKind.i64.wrap ((es.length : Int) + 1) > (es.length : Int) + (sp.length : Int)) then
      bif slb 0 (i : Int) es.length then
        bif decide (i ≤ es.length) && (decide (0 ≤ IntKind.i64.wrap (IntKind.i64.wrap ((es.length : Int) + 1) - i)) && (decide (es.length + sp.length < i + (IntKind.i64.wrap (IntKind.i64.wrap ((es.length : Int) + 1) - i)).toNat) && roomB (i + (IntKind.i64.wrap (IntKind.i64.wrap ((es.length : Int) + 1) - i)).toNat) bytes)) then
          (fun T : List AV => bif slb (i : Int) (T.length : Int) T.length then bif decide (i + (T.length - i) ≤ T.length) then
            (fun A : List AV => bif slb (IntKind.i64.wrap ((i : Int) + 1)) (A.length : Int) A.length then bif slb (i : Int) (es.length : Int) es.length then bif decide (i + (es.length - i) ≤ es.length) then
              bif decide ((IntKind.i64.wrap ((i : Int) + 1)).toNat + (A.length - (IntKind.i64.wrap ((i : Int) + 1)).toNat) ≤ A.length) then K (spl A ((es.drop i).take (es.length - i)) (IntKind.i64.wrap ((i : Int) + 1)).toNat) else none else none else none else none) (spl T [x] i)
            else none else none) (es.take i ++ List.replicate (IntKind.i64.wrap (IntKind.i64.wrap ((es.length : Int) + 1) - i)).toNat z)
        else none
      else none
    else
      bif decide ((es.length : Int) ≤ IntKind.i64.wrap ((es.length : Int) + 1)) && decide (IntKind.i64.wrap ((es.length : Int) + 1) ≤ (es.length : Int) + (sp.length : Int)) then
        (fun E : List AV => bif slb (IntKind.i64.wrap ((i : Int) + 1)) (E.length : Int) E.length then
          bif (PID + 0).beq PID && ((PID + 1).beq (PID + 1) && (decide ((IntKind.i64.wrap ((i : Int) + 1)).toNat + (E.length - (IntKind.i64.wrap ((i : Int) + 1)).toNat) ≤ E.length) && true)) then
            bif slb (IntKind.i64.wrap ((i : Int) + 1)) (E.length : Int) E.length then bif slb (i : Int) (E.length : Int) E.length then bif decide (i + (E.length - i) ≤ E.length) then
              bif decide ((IntKind.i64.wrap ((i : Int) + 1)).toNat + (E.length - (IntKind.i64.wrap ((i : Int) + 1)).toNat) ≤ E.length) then
                (fun C : List AV => bif slb (i : Int) (C.length : Int) C.length then bif decide (i + (C.length - i) ≤ C.length) then K (spl C [x] i) else none else none)
                  (spl E ((E.drop i).take (E.length - i)) (IntKind.i64.wrap ((i : Int) + 1)).toNat)
              else none else none else none else none
          else none else none) (es ++ sp.take ((IntKind.i64.wrap ((es.length : Int) + 1)).toNat - es.length))
      else none
  else none
theorem insTree_eq {ρ : Type} {es sp : List AV} {x z : AV} {i bytes : Nat} (K : List AV → Option ρ) (hi : i ≤ es.length) (hn : es.length ≤ 100000) (hb : bytes ≤ 1000) : insTree es sp x z i bytes K = K (es.take i ++ x :: es.drop i) := by
  have w1 : IntKind.i64.wrap ((es.length : Int) + 1) = ((es.length + 1 : Nat) : Int) := by rw [wrap_mid _ (by omega) (by omega)]; omega
  have w2 : IntKind.i64.wrap (((es.length + 1 : Nat) : Int) - i) = ((es.length + 1 - i : Nat) : Int) := by rw [wrap_mid _ (by omega) (by omega)]; omega
  have w3 : IntKind.i64.wrap ((i : Int) + 1) = ((i + 1 : Nat) : Int) := by rw [wrap_mid _ (by omega) (by omega)]; omega
  unfold insTree
  rw [w1, w2, w3]
  simp only [Int.toNat_natCast]
  rw [slb_true (by omega) (by omega) (by omega), cond_true]
  by_cases he : i = es.length
  · subst he
    rw [show ((es.length : Int) == (es.length : Int)) = true from by simp, cond_true, roomB_small (by omega) hb, cond_true, List.take_length, List.drop_length]
  · have hlt : i < es.length := by omega
    rw [show ((i : Int) == (es.length : Int)) = false from by simp; omega, cond_false]
    have htl : (es.take i).length = i := by rw [List.length_take]; omega
    by_cases hsp : sp.length = 0
    · rw [decide_eq_true (by omega), cond_true, slb_true (by omega) (by omega) (by omega), cond_true]
      refine Eq.trans (cond_t (and_t (decide_eq_true (by omega)) (and_t (decide_eq_true (by omega)) (and_t (decide_eq_true (by omega)) (roomB_small (by omega) hb))))) ?_
      have hT : es.take i ++ List.replicate (es.length + 1 - i) z = es.take i ++ (z :: List.replicate (es.length - i) z) := by
        rw [show es.length + 1 - i = (es.length - i) + 1 from by omega, List.replicate_succ]
      simp only [hT]
      have hA : spl (es.take i ++ (z :: List.replicate (es.length - i) z)) [x] i = es.take i ++ (x :: List.replicate (es.length - i) z) := by
        rw [spl_eq htl (by simp)]; rfl
      simp only [hA]
      have l1 : (es.take i ++ (z :: List.replicate (es.length - i) z)).length = es.length + 1 := by rw [List.length_append, htl, List.length_cons, List.length_replicate]; omega
      have l2 : (es.take i ++ (x :: List.replicate (es.length - i) z)).length = es.length + 1 := by rw [List.length_append, htl, List.length_cons, List.length_replicate]; omega
      simp only [l1, l2]
      refine Eq.trans (cond_t (slb_true (by omega) (by omega) (by omega))) (Eq.trans (cond_t (decide_eq_true (by omega))) (Eq.trans (cond_t (slb_true (by omega) (by omega) (by omega))) (Eq.trans (cond_t rfl) (Eq.trans (cond_t (decide_eq_true (by omega))) (Eq.trans (cond_t (decide_eq_true (by omega))) ?_)))))
      rw [show es.take i ++ (x :: List.replicate (es.length - i) z) = (es.take i ++ [x]) ++ List.replicate (es.length - i) z from by simp]
      have hB : (es.drop i).take (es.length - i) = es.drop i := List.take_of_length_le (by simp)
      have hR : (List.replicate (es.length - i) z).drop (es.drop i).length = [] := List.drop_of_length_le (by simp)
      rw [hB, spl_eq (by rw [List.length_append, htl]; rfl) (by simp), hR]
      simp
    · rw [decide_eq_false (by omega), cond_false]
      refine Eq.trans (cond_t (and_t (decide_eq_true (by omega)) (decide_eq_true (by omega)))) ?_
      obtain ⟨y, sp', rfl⟩ : ∃ y sp', sp = y :: sp' := by cases sp with | nil => simp at hsp | cons y sp' => exact ⟨y, sp', rfl⟩
      have h1 : es.length + 1 - es.length = 1 := by omega
      simp only [h1, List.take_succ_cons, List.take_zero]
      have l1 : (es ++ [y]).length = es.length + 1 := by simp
      have hd1 : (es ++ [y]).drop i = es.drop i ++ [y] := List.drop_append_of_le_length (by omega)
      have hC : spl (es ++ [y]) (((es ++ [y]).drop i).take ((es ++ [y]).length - i)) (i + 1) = es.take (i + 1) ++ es.drop i := by
        have l3 : (es.drop i ++ [y]).length = es.length + 1 - i := by rw [List.length_append, List.length_drop]; simp; omega
        have hB : (es.drop i ++ [y]).take (es.length + 1 - i) = es.drop i ++ [y] := List.take_of_length_le (by rw [l3]; exact Nat.le_refl _)
        have h2 : (es.drop i ++ [y]).take (es.length - i) = es.drop i := by
          rw [List.take_append_of_le_length (by rw [List.length_drop]; omega), List.take_of_length_le (by rw [List.length_drop]; omega)]
        have h3 : (es ++ [y]).drop (i + 1 + (es.length - i)) = [] := List.drop_of_length_le (by rw [l1]; omega)
        have h4 : (es ++ [y]).take (i + 1) = es.take (i + 1) := List.take_append_of_le_length (by omega)
        rw [hd1, l1, hB]
        unfold spl
        rw [l1, l3, show min (es.length + 1 - (i + 1)) (es.length + 1 - i) = es.length - i from by omega, h2, h3, h4, List.append_nil]
      simp only [hC]
      have l4 : (es.take (i + 1) ++ es.drop i).length = es.length + 1 := by rw [List.length_append, List.length_take, List.length_drop]; omega
      simp only [l1, l4]
      refine Eq.trans (cond_t (slb_true (by omega) (by omega) (by omega))) (Eq.trans (cond_t (and_t (Nat.beq_refl _) (and_t (Nat.beq_refl _) (and_t (decide_eq_true (by omega)) rfl)))) (Eq.trans (cond_t (slb_true (by omega) (by omega) (by omega))) (Eq.trans (cond_t (slb_true (by omega) (by omega) (by omega))) (Eq.trans (cond_t (decide_eq_true (by omega))) (Eq.trans (cond_t (decide_eq_true (by omega))) (Eq.trans (cond_t (slb_true (by omega) (by omega) (by omega))) (Eq.trans (cond_t (decide_eq_true (by omega))) ?_)))))))
      rw [show es.take (i + 1) ++ es.drop i = es.take i ++ (es[i] :: es.drop i) from by rw [List.take_succ_eq_append_getElem hlt, List.append_assoc]; rfl, spl_eq htl (by simp)]
      rfl
end Go.Ev

/-
  What slices.DeleteFunc comes to.
-/
namespace Go.Ev

def delN (p : AV → Bool) (c : AV → AV) : Nat → List AV → Nat → Nat → List AV × Nat
  | 0, es, i, _ => (es, i)
  | n + 1, es, i, j => bif p (es.getD j .unk) then delN p c n es i (j + 1) else delN p c n (es.set i (c (es.getD j .unk))) (i + 1) (j + 1)
theorem delN_succ (p : AV → Bool) (c : AV → AV) (n : Nat) (es : List AV) (i j : Nat) : delN p c (n + 1) es i j = bif p (es.getD j .unk) then delN p c n es i (j + 1) else delN p c n (es.set i (c (es.getD j .unk))) (i + 1) (j + 1) := rfl
theorem delN_len (p : AV → Bool) (c : AV → AV) : ∀ (n : Nat) (es : List AV) (i j : Nat), (delN p c n es i j).1.length = es.length
  | 0, _, _, _ => rfl
  | n + 1, es, i, j => by
    rw [delN_succ]
    cases p (es.getD j .unk)
    · rw [cond_false, delN_len p c n]; simp
    · rw [cond_true, delN_len p c n]
theorem delN_le (p : AV → Bool) (c : AV → AV) : ∀ (n : Nat) (es : List AV) (i j : Nat), (delN p c n es i j).2 ≤ i + n
  | 0, _, _, _ => Nat.le_refl _
  | n + 1, es, i, j => by
    rw [delN_succ]
    cases p (es.getD j .unk)
    · rw [cond_false]; have := delN_le p c n (es.set i (c (es.getD j .unk))) (i + 1) (j + 1); omega
    · rw [cond_true]; have := delN_le p c n es i (j + 1); omega
theorem delN_take (p : AV → Bool) (c : AV → AV) : ∀ (n : Nat) (es : List AV) (i j : Nat), i ≤ j → j + n = es.length → (∀ x ∈ es, c x = x) → (delN p c n es i j).1.take (delN p c n es i j).2 = es.take i ++ (es.drop j).filter (fun x => !p x)
  | 0, es, i, j, _, h, _ => by
    unfold delN
    rw [List.drop_of_length_le (by omega)]
    simp
  | n + 1, es, i, j, hij, h, hc => by
    have hj : j < es.length := by omega
    rw [delN_succ, getD_eq hj, List.drop_eq_getElem_cons hj, List.filter_cons]
    cases hz : p es[j]
    · rw [cond_false, hc _ (List.getElem_mem hj)]
      rw [delN_take p c n (es.set i es[j]) (i + 1) (j + 1) (by omega) (by rw [List.length_set]; omega) (fun x hx => by
        rcases List.mem_or_eq_of_mem_set hx with h | h
        · exact hc x h
        · rw [h]; exact hc _ (List.getElem_mem hj))]
      have e1 : (es.set i es[j]).take (i + 1) = es.take i ++ [es[j]] := by
        rw [List.take_add_one, List.take_set_of_le (Nat.le_refl _), List.getElem?_set_self (by omega)]
        rfl
      have e2 : (es.set i es[j]).drop (j + 1) = es.drop (j + 1) := List.drop_set_of_lt (by omega)
      rw [e1, e2]
      simp
    · rw [cond_true, delN_take p c n es i (j + 1) (by omega) (by omega) hc]
      simp
/-- The text of slices.DeleteFunc, evaluated; f: where the first to be deleted is; G: what its loop asks. -/
def delTree {ρ : Type} (p : AV → Bool) (c : AV → AV) (z : AV) (es : List AV) (f : Option Nat) (G : Int → Int → Bool) (K : List AV → Option ρ) : Option ρ :=
  bif small es.length then bif idxZ f == -1 then K es else
    bif G (idxZ f) (IntKind.i64.wrap (idxZ f + 1)) then
      (fun D : List AV × Nat => bif slb (D.2 : Int) (D.1.length : Int) D.1.length then bif decide (((D.2 : Nat) : Int).toNat + (((D.1.length : Nat) : Int).toNat - ((D.2 : Nat) : Int).toNat) ≤ D.1.length) then
        (fun E : List AV => bif slb 0 (D.2 : Int) E.length then bif (((D.2 : Nat) : Int).toNat - Int.toNat 0).ble E.length then K (E.take (((D.2 : Nat) : Int).toNat - Int.toNat 0)) else none else none)
          (D.1.take ((D.2 : Nat) : Int).toNat ++ (List.replicate (((D.1.length : Nat) : Int).toNat - ((D.2 : Nat) : Int).toNat) z ++ D.1.drop (((D.2 : Nat) : Int).toNat + (((D.1.length : Nat) : Int).toNat - ((D.2 : Nat) : Int).toNat))))
        else none else none) (delN p c (es.length - (IntKind.i64.wrap (idxZ f + 1)).toNat) es (idxZ f).toNat (IntKind.i64.wrap (idxZ f + 1)).toNat)
    else none
  else none
theorem delTree_eq {ρ : Type} {p : AV → Bool} {c : AV → AV} {z : AV} {es : List AV} {f : Option Nat} {G : Int → Int → Bool} {K : List AV → Option ρ} (hf : f = findN (fun i => p (es.getD i .unk)) es.length 0) (hs : es.length ≤ 1000000) (hc : ∀ x ∈ es, c x = x) (hG : ∀ i : Nat, i < es.length → G i ((i : Int) + 1) = true) : delTree p c z es f G K = K (es.filter fun x => !p x) := by
  unfold delTree
  rw [show small es.length = true from decide_eq_true (by omega), cond_true]
  cases hq : f with
  | none =>
    have hn := findN_none (hf ▸ hq)
    rw [show es.filter (fun x => !p x) = es from List.filter_eq_self.2 fun x hx => by
      obtain ⟨i, hi, rfl⟩ := List.getElem_of_mem hx
      have := hn i (Nat.zero_le _) hi
      rw [getD_eq hi] at this
      rw [this]; rfl]
    rfl
  | some i =>
    obtain ⟨_, hi, h1, h2⟩ := findN_some (hf ▸ hq)
    have hw : IntKind.i64.wrap ((i : Int) + 1) = i + 1 := wrap_mid _ (by omega) (by omega)
    have hn1 : ((i : Int) + 1).toNat = i + 1 := by omega
    have hl := delN_len p c (es.length - (i + 1)) es i (i + 1)
    have hle := delN_le p c (es.length - (i + 1)) es i (i + 1)
    have htk := delN_take p c (es.length - (i + 1)) es i (i + 1) (by omega) (by omega) hc
    have hfi : es.filter (fun x => !p x) = es.take i ++ (es.drop (i + 1)).filter (fun x => !p x) := by
      conv => lhs; rw [← List.take_append_drop i es, List.drop_eq_getElem_cons hi]
      rw [getD_eq hi] at h1
      rw [List.filter_append, List.filter_cons, h1]
      rw [show (es.take i).filter (fun x => !p x) = es.take i from List.filter_eq_self.2 fun x hx => by
        obtain ⟨j, hj, rfl⟩ := List.getElem_of_mem hx
        rw [List.length_take] at hj
        have := h2 j (Nat.zero_le _) (by omega)
        rw [getD_eq (by omega)] at this
        rw [List.getElem_take, this]; rfl]
      rfl
    rw [hfi, ← htk]
    simp only [idxZ, hw, hn1, Int.toNat_natCast]
    rw [show ((i : Int) == -1) = false from by simp, cond_false, hG i hi, cond_true]
    generalize delN p c (es.length - (i + 1)) es i (i + 1) = D at hl hle
    have e1 : D.1.take D.2 ++ (List.replicate (D.1.length - D.2) z ++ D.1.drop (D.2 + (D.1.length - D.2))) = D.1.take D.2 ++ List.replicate (D.1.length - D.2) z := by
      rw [List.drop_of_length_le (by omega), List.append_nil]
    have e2 : (D.1.take D.2 ++ List.replicate (D.1.length - D.2) z).length = D.1.length := by simp; omega
    rw [e1]
    refine Eq.trans (cond_t (slb_true (by omega) (by omega) (by omega))) (Eq.trans (cond_t (decide_eq_true (by omega))) (Eq.trans (cond_t (slb_true (by omega) (by omega) (by rw [e2]; omega))) (Eq.trans (cond_t (Nat.ble_eq_true_of_le (by rw [e2]; simp; omega))) ?_)))
    rw [show D.2 - Int.toNat 0 = D.2 from by simp, List.take_append_of_le_length (by simp; omega), List.take_of_length_le (by simp; omega)]
end Go.Ev

/-
  Further calls that the model answers itself: a byte sought in a string, and counted.
-/
namespace Go.Ev
open Go.RowKit

def idxB (s : List UInt8) (c : Int) : Int := Lib.indexByte s c.toNat.toUInt8
def Fidx : Summ := fun _ avs k => match avs with
  | [.str s, .int .u8 c] => k (.int .i64 (idxB s c))
  | _ => none
theorem snat_idx : SNat Fidx := fun ρ avs k => by unfold Fidx; split <;> rfl
theorem idx_ok {P : Program} {f : FuncId} {fn : Func} (hfn : P.funcs[f]? = some fn) (hname : (fn.name == "runtime.NumGoroutine") = false) (hb : fn.body.isNone = true) (hn : Extern.findNext fn = none) (he : Extern.find fn = some Extern.BytealgIndexByte.indexByte) : SumOK P f Fidx ∧ SNat Fidx := by
  refine ⟨fun ρ w S avs args k r hS hv h => ?_, snat_idx⟩
  unfold Fidx at h
  split at h
  · rename_i s c
    obtain ⟨v, vs, rfl, h1, hv⟩ := hv.inv
    obtain ⟨u, us, rfl, h2, hv⟩ := hv.inv
    obtain rfl := hv.inv_nil
    rw [h1.str_inv, h2.int_inv]
    refine .inr ⟨noBody hfn hb, .int .i64 (idxB s c), w, ?_, ⟨_, _, fun _ => False, rfl, h, Below.refl _ _, fun _ h => h.elim, fun _ h => h.elim, .int _ _ _⟩⟩
    rw [run_callFunc_extern hfn hname hb hn he]
    show ((Extern.BytealgIndexByte.indexByte #[.string ⟨s.toArray⟩, .int .u8 c]).run P w).andThen _ = _
    rw [Lib.run_indexByteString]
    rfl
  · cases h
def cntB (s : List UInt8) (c : Int) : Nat := Lib.countByte s c.toNat.toUInt8
def Fcnt : Summ := fun _ avs k => match avs with
  | [.str s, .int .u8 c] => k (.int .i64 (cntB s c : Nat))
  | _ => none
theorem snat_cnt : SNat Fcnt := fun ρ avs k => by unfold Fcnt; split <;> rfl
theorem cnt_ok {P : Program} {f : FuncId} {fn : Func} (hfn : P.funcs[f]? = some fn) (hname : (fn.name == "runtime.NumGoroutine") = false) (hb : fn.body.isNone = true) (hn : Extern.findNext fn = none) (he : Extern.find fn = some Extern.BytealgCount.count) : SumOK P f Fcnt ∧ SNat Fcnt := by
  refine ⟨fun ρ w S avs args k r hS hv h => ?_, snat_cnt⟩
  unfold Fcnt at h
  split at h
  · rename_i s c
    obtain ⟨v, vs, rfl, h1, hv⟩ := hv.inv
    obtain ⟨u, us, rfl, h2, hv⟩ := hv.inv
    obtain rfl := hv.inv_nil
    rw [h1.str_inv, h2.int_inv]
    refine .inr ⟨noBody hfn hb, .int .i64 (cntB s c : Nat), w, ?_, ⟨_, _, fun _ => False, rfl, h, Below.refl _ _, fun _ h => h.elim, fun _ h => h.elim, .int _ _ _⟩⟩
    rw [run_callFunc_extern hfn hname hb hn he]
    show ((Extern.BytealgCount.count #[.string ⟨s.toArray⟩, .int .u8 c]).run P w).andThen _ = _
    rw [Lib.run_countString]
    rfl
  · cases h
end Go.Ev

namespace Go.Ev

theorem etas_rel' {w : World} {S : Nat → Prop} {β : Bet} {s : Sh} {x : AV} {us : List Value} (h : hasSh s x = true) (hv : VRels w S β x.cells us) : VRels w S β (etaCells s x) us := etas_rel _ _ _ (hasSh_hass s _ h) hv
/-- One element of an array is held apart. -/
theorem RowRel.focus {w : World} {S B : Nat → Prop} {β : Bet} {id : Nat} {o : Option Nat} {imm : Bool} {s : Sh} {e : TypeId} {pre post cs : List AV} {x : AV} {csp : Option (List AV)} (h : RowRel w S B β id o (.arr imm s e (pre ++ x :: post) csp))
    (hcs : cs = x.cells ∨ cs = etaCells s x) : RowRel w S B β id o (.foc imm s e pre cs post) := by
  obtain ⟨hpos, v, sp, xs, hsh, _, hb, h1, hvs, hor⟩ := h
  rcases hor with ⟨he, _⟩ | ⟨g, ho, rfl, hB, hh, hm, hi, hj⟩
  · simp at he
  · have hpre : ∀ y ∈ pre, hasSh s y = true := fun y hy => hsh y (by simp [hy])
    have hx : hasSh s x = true := hsh x (by simp)
    have hpost : ∀ y ∈ post ++ sp, hasSh s y = true := fun y hy => hsh y (by
      rcases List.mem_append.1 hy with h | h <;> simp [h])
    have hw := hasSh_width s x hx
    have hf : flat (pre ++ x :: post ++ sp) = flat pre ++ (x.cells ++ flat (post ++ sp)) := by
      simp only [flat, List.flatMap_append, List.flatMap_cons, List.append_assoc]
    rw [hf] at hvs
    have lp := flat_length pre hpre
    have v1 : VRels w S nob (flat pre) (xs.take (flat pre).length) := by
      have := hvs.take (flat pre).length
      rwa [List.take_append_of_le_length (Nat.le_refl _), List.take_of_length_le (Nat.le_refl _)] at this
    have v2 : VRels w S nob (x.cells ++ flat (post ++ sp)) (xs.drop (flat pre).length) := by
      have := hvs.drop (flat pre).length
      rwa [List.drop_left] at this
    have v3 : VRels w S nob x.cells ((xs.drop (flat pre).length).take x.cells.length) := by
      have := v2.take x.cells.length
      rwa [List.take_append_of_le_length (Nat.le_refl _), List.take_of_length_le (Nat.le_refl _)] at this
    have v4 : VRels w S nob (flat (post ++ sp)) ((xs.drop (flat pre).length).drop x.cells.length) := by
      have := v2.drop x.cells.length
      rwa [List.drop_left] at this
    have hsplit : xs.take (flat pre).length ++ ((xs.drop (flat pre).length).take x.cells.length ++ (xs.drop (flat pre).length).drop x.cells.length) = xs := by
      rw [List.take_append_drop, List.take_append_drop]
    have v3' : VRels w S β cs ((xs.drop (flat pre).length).take x.cells.length) := by
      have m : VRels w S β x.cells ((xs.drop (flat pre).length).take x.cells.length) := v3.mono (fun _ h => h) (fun _ _ => rfl) (fun _ _ h => by cases h)
      rcases hcs with rfl | rfl
      · exact m
      · exact etas_rel' hx m
    have hl : (pre ++ x :: post).length = pre.length + (post.length + 1) := by simp
    rw [hl] at hb hm
    refine ⟨hpos, ?_, g, sp, _, _, _, hpre, hpost, ho, hb, ?_, v1, v3', v4, hB, by rw [hsplit]; exact hh, hm, hi, hj⟩
    · rw [← v3'.1, v3.1]; exact hw
    · rw [hsplit]; exact h1
theorem Goes.mono {P : Program} {f : FuncId} {args : Array Value} {w : World} {R R' : Ending → World → Prop} (h : Goes P f args w R) (hR : ∀ e w', R e w' → R' e w') : Goes P f args w R' := by
  rcases h with ⟨hb, h⟩ | ⟨hb, u, w', h1, h2⟩
  · exact .inl ⟨hb, h.mono hR⟩
  · exact .inr ⟨hb, u, w', h1, hR _ _ h2⟩
theorem XOK.focus {P : Program} {f : FuncId} {p p' : List AV → List Row → Tr XOut} (h : XOK P f (ofX p))
    (hp : ∀ avs rows, p' avs rows = .no ∨ (∃ t, p' avs rows = .gd false t) ∨ ∃ (c c' : Bool) (v : AV) (pr : List (Option Row)) (s : Sh) (e : TypeId) (pre : List AV) (x : AV) (post : List AV) (csp : Option (List AV)) (rest : List Row) (cs : List AV),
      p avs rows = .gd c (.leaf (v, pr, .arr false s e (pre ++ x :: post) csp :: rest)) ∧ p' avs rows = .gd c' (.leaf (v, pr, .foc false s e pre cs post :: rest)) ∧ (c' = true → c = true) ∧ (cs = x.cells ∨ cs = etaCells s x)) : XOK P f (ofX p') ∧ XNat (ofX p') := by
  refine ⟨fun ρ w S B β og avs rows args k r hh hB hβ hv hF => ?_, xnat_ofX _⟩
  rcases hp avs rows with e | ⟨t, e⟩ | ⟨c, c', v, pr, s, e, pre, x, post, csp, rest, cs, e1, e2, hc, hcs⟩
  · have hF' : (p' avs rows).run (fun q => k q.1 q.2.1 q.2.2) = some r := hF
    rw [e] at hF'
    cases hF'
  · have hF' : (p' avs rows).run (fun q => k q.1 q.2.1 q.2.2) = some r := hF
    rw [e] at hF'
    cases hF'
  · have hF' : (p' avs rows).run (fun q => k q.1 q.2.1 q.2.2) = some r := hF
    rw [e2] at hF'
    obtain ⟨hc', hk⟩ := gd_some hF'
    have h0 := h (AV × List (Option Row) × List Row) w S B β og avs rows args (fun v p n => some (v, p, n)) (v, pr, .arr false s e (pre ++ x :: post) csp :: rest) hh hB hβ hv (by
      show (p avs rows).run (fun q => some (q.1, q.2.1, q.2.2)) = _
      rw [e1, hc hc']
      rfl)
    refine Goes.mono h0 fun e' w' ⟨u, v', prow, nrow, S', β', og', he, hkk, ha⟩ => ?_
    simp only [Option.some.injEq, Prod.mk.injEq] at hkk
    obtain ⟨rfl, rfl, rfl⟩ := hkk
    refine ⟨u, _, _, _, S', β', og', he, hk, ⟨ha.kept, ha.sub, ha.sin, ha.val, ha.prow, fun j r hj => ?_, ha.inj, ha.lt, ha.one, ha.Slt, ha.bet⟩⟩
    cases j with
    | zero =>
      simp only [List.getElem?_cons_zero, Option.some.injEq] at hj
      subst hj
      exact (ha.nrow 0 _ rfl).focus hcs
    | succ j => exact ha.nrow (j + 1) r (by simpa using hj)
/-- What is known of a function may hang on its arguments. -/
theorem SumOK.point {P : Program} {f : FuncId} {F : Summ} (h : ∀ avs, ∃ F', SumOK P f F' ∧ ∀ (ρ : Type) (k : AV → Option ρ) (r : ρ), F ρ avs k = some r → F' ρ avs k = some r) : SumOK P f F := fun ρ w S avs args k r hS hv hF => by
  obtain ⟨F', h1, h2⟩ := h avs
  exact h1 ρ w S avs args k r hS hv (h2 ρ k r hF)
theorem XOK.point {P : Program} {f : FuncId} {F : SummX} (h : ∀ avs rows, ∃ F', XOK P f F' ∧ ∀ (ρ : Type) (k : AV → List (Option Row) → List Row → Option ρ) (r : ρ), F ρ avs rows k = some r → F' ρ avs rows k = some r) : XOK P f F := fun ρ w S B β og avs rows args k r hh hB hβ hv hF => by
  obtain ⟨F', h1, h2⟩ := h avs rows
  exact h1 ρ w S B β og avs rows args k r hh hB hβ hv (h2 ρ k r hF)
end Go.Ev
