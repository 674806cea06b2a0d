/-
  What a row says of a call's arguments, as plain data; and the row's frame.
-/
import Derived.Test.YtpgaobdgohlegaaEvT
import Derived.WalkKit
import Derived.ProofKit
import Derived.OpenShut
import Derived.Below
import Derived.Carry
import Derived.ChangeSame
namespace Go.Ev
open Go.RowKit Go.WideShapes Go.ChangeShapes

/-- Plain data as an argument brings it: its numbers fit their kinds, its lengths the machine. -/
inductive Fit : AV → Prop where
  | int (k : IntKind) (n : Int) (h : (Lit.int k n).wf = true) : Fit (.int k n)
  | bool (b : Bool) : Fit (.bool b)
  | str (s : List UInt8) (h : s.length ≤ maxLen) : Fit (.str s)
  | agg (cs : List AV) (h : ∀ c ∈ cs, Fit c) : Fit (.agg cs)
  | slv (s : Sh) (es : List AV) (h : es.length ≤ maxLen) (hs : ∀ e ∈ es, hasSh s e = true) (hf : ∀ e ∈ es, Fit e) : Fit (.slv s es)

mutual
def AV.sz : AV → Nat
  | .str s => s.length + 1
  | .agg cs => AV.szs cs
  | .slv _ es => AV.szs es + 1
  | _ => 1
def AV.szs : List AV → Nat
  | [] => 0
  | c :: cs => c.sz + AV.szs cs
end
theorem szs_append (l r : List AV) : AV.szs (l ++ r) = AV.szs l + AV.szs r := by
  induction l with
  | nil => simp [AV.szs]
  | cons c l ih => simp only [List.cons_append, AV.szs, ih]; omega

/-- A measure of a reading: how much it holds. -/
structure BK (H : Type) where
  bk : DataW H → Nat
  all : List (DataW H) → Nat
  str : ∀ b, bk (.lit (.string b)) = b.length + 1
  lit : ∀ l, 1 ≤ bk (.lit l)
  nil : 1 ≤ bk .nil
  agg : ∀ l, bk (.agg l) = all l + 1
  slice : ∀ e s, bk (.slice e s) = all e + all s + 1
  anil : all [] = 0
  acons : ∀ d l, all (d :: l) = bk d + all l
theorem BK.app {H : Type} (B : BK H) (l r : List (DataW H)) : B.all (l ++ r) = B.all l + B.all r := by
  induction l with
  | nil => simp [B.anil]
  | cons c l ih => simp only [List.cons_append, B.acons, ih]; omega

/-- The fields lie one behind the other. -/
def laidF (P : Program) (ok : TypeId → Bool) (sh : TypeId → Sh) : Nat → List Field → Nat → Bool
  | off, [], total => off == total
  | off, f :: fs, total => (f.offset == off) && ((P.cellsOf f.type == (sh f.type).width) && (ok f.type && laidF P ok sh (off + P.cellsOf f.type) fs total))
/-- A type of plain data. -/
def tyOK (P : Program) : Nat → TypeId → Bool
  | 0, _ => false
  | n + 1, t =>
    match P.underlying t with
    | some (.int _) => true
    | some .bool => true
    | some .string => true
    | some (.slice e) => (P.cellsOf e == (shOf P n e).width) && (Nat.blt 0 (P.cellsOf e) && tyOK P n e)
    | some (.struct fs) => laidF P (tyOK P n) (shOf P n) 0 fs.toList (P.cellsOf t)
    | _ => false

theorem beqs_app : ∀ (l l' : List Sh), Sh.beqs l l = true → Sh.beqs l' l' = true → Sh.beqs (l ++ l') (l ++ l') = true
  | [], l', _, h => h
  | a :: l, l', h, h' => by
    simp only [Sh.beqs, Bool.and_eq_true] at h
    simp only [List.cons_append, Sh.beqs, Bool.and_eq_true]
    exact ⟨h.1, beqs_app l l' h.2 h'⟩
theorem beqs_cells {s : Sh} (h : Sh.beq s s = true) : Sh.beqs s.cells s.cells = true := by
  cases s <;> simp_all [Sh.cells, Sh.beqs, Sh.beq]
theorem beqs_fields {P : Program} {ok : TypeId → Bool} {sh : TypeId → Sh} (hok : ∀ t, ok t = true → Sh.beq (sh t) (sh t) = true) : ∀ (fs : List Field) (off total : Nat), laidF P ok sh off fs total = true →
    Sh.beqs (fs.flatMap fun f => (sh f.type).cells) (fs.flatMap fun f => (sh f.type).cells) = true
  | [], _, _, _ => rfl
  | f :: fs, off, total, h => by
    simp only [laidF, Bool.and_eq_true] at h
    rw [List.flatMap_cons]
    exact beqs_app _ _ (beqs_cells (hok _ h.2.2.1)) (beqs_fields hok fs _ _ h.2.2.2)
theorem beq_self {P : Program} : ∀ (n : Nat) (t : TypeId), tyOK P n t = true → Sh.beq (shOf P n t) (shOf P n t) = true
  | 0, _, h => by simp [tyOK] at h
  | n + 1, t, h => by
    simp only [tyOK] at h
    simp only [shOf]
    cases hu : P.underlying t with
    | none => simp [hu] at h
    | some d =>
      simp only [hu] at h
      cases d <;> simp only [Bool.false_eq_true] at h <;> simp only [Sh.beq, decide_true]
      case slice e =>
        simp only [Bool.and_eq_true] at h
        exact beq_self n e h.2.2
      case struct fs =>
        exact beqs_fields (fun t ht => beq_self n t ht) fs.toList _ _ h

section open_
variable {H : Type} {enc : TypeId × Value → H} {P : Program} {w : World} {sp : Nat → Bool} {held : Bool} (B : BK H)

/-- Everything that the call finds. -/
def here (w : World) : Nat → Prop := fun b => b < w.heap.size

structure Opened (P : Program) (w : World) (s : Sh) (cs : List Value) (avs : List AV) (m : Nat) : Prop where
  rel : VRels w (here w) nob avs cs
  has : hass s.cells avs = true
  fit : ∀ c ∈ avs, Fit c
  one : ∀ u ∈ cs, u.oneCell' = true
  sz : AV.szs avs ≤ m

theorem mkAV_fit {s : Sh} {avs : List AV} (h : hass s.cells avs = true) (hf : ∀ c ∈ avs, Fit c) : Fit (mkAV s avs) := by
  have hc := mkAV_of h
  cases s with
  | agg l => exact .agg _ hf
  | _ =>
    cases avs with
    | nil => simp [Sh.cells, hass] at h
    | cons c cs => exact hf c (by simp)

theorem mkAV_sz {s : Sh} {avs : List AV} (h : hass s.cells avs = true) : (mkAV s avs).sz ≤ AV.szs avs := by
  cases s with
  | agg l => simp [mkAV, AV.sz]
  | _ =>
    cases avs with
    | nil => simp [Sh.cells, hass] at h
    | cons c cs => simp [mkAV, AV.szs]

theorem cell_block {a : Addr} {u : Value} (h : w.cell? a = some u) : a.block < w.heap.size := by
  unfold World.cell? at h
  rcases Nat.lt_or_ge a.block w.heap.size with h' | h'
  · exact h'
  · simp [Array.getElem?_eq_none h'] at h

theorem cells_spec {a : Addr} : ∀ {n : Nat} {cs : List Value}, w.cells? 0 a n = some cs → cs.length = n ∧ ∀ (j : Nat) (u : Value), cs[j]? = some u → w.cell? (a.add j) = some u := by
  intro n
  unfold World.cells?
  simp only [Nat.zero_le, if_true]
  induction n with
  | zero => intro cs h; simp at h; subst h; simp
  | succ n ih =>
    intro cs h
    rw [List.range_succ, List.mapM_append] at h
    cases h1 : (List.range n).mapM fun i => w.cell? (a.add i) with
    | none => simp [h1] at h
    | some l =>
      simp only [h1, Option.bind_eq_bind, Option.bind_some, List.mapM_cons, List.mapM_nil, Option.pure_def] at h
      cases h2 : w.cell? (a.add n) with
      | none => simp [h2] at h
      | some u =>
        simp only [h2, Option.bind_some, Option.some.injEq] at h
        subst h
        obtain ⟨h3, h4⟩ := ih h1
        refine ⟨by simp [h3], fun j x hx => ?_⟩
        rcases Nat.lt_or_ge j l.length with hj | hj
        · rw [List.getElem?_append_left hj] at hx; exact h4 j x hx
        · rw [List.getElem?_append_right hj] at hx
          have : j - l.length = 0 := by
            rcases Nat.eq_zero_or_pos (j - l.length) with h | h
            · exact h
            · rw [List.getElem?_eq_none (by simp; omega)] at hx; cases hx
          rw [this] at hx
          simp at hx
          have : j = n := by omega
          subst this
          rw [← hx]; exact h2

/-- A slice's elements, one by one. -/
theorem open_elems {s : Sh} {c : Nat} {a : Addr} {f : List Value → Option (DataW H × List MemPlace)} (hc : c = s.width) (hf : ∀ cs x, f cs = some x → ∃ avs, Opened P w s cs avs (B.bk x.1)) {elems : List (DataW H × List MemPlace)}
    (he : ∀ i, i < elems.length → (w.cells? 0 (a.add (i * c)) c).bind f = elems[i]?) :
    ∀ (len : Nat), len ≤ elems.length →
      ∃ (es : List AV) (xs : List Value), es.length = len ∧ (∀ e ∈ es, hasSh s e = true) ∧ (∀ e ∈ es, Fit e) ∧ VRels w (here w) nob (flat es) xs ∧ (∀ u ∈ xs, u.oneCell' = true) ∧
        (∀ (j : Nat) (u : Value), xs[j]? = some u → w.cell? (a.add j) = some u) ∧ xs.length = len * c ∧ AV.szs es ≤ B.all ((elems.take len).map (·.1))
  | 0, _ => ⟨[], [], rfl, by simp, by simp, VRels.nil, by simp, by simp, by simp, by simp [AV.szs]⟩
  | len + 1, hle => by
    have hlt : len < elems.length := by omega
    have h := he len hlt
    rw [List.getElem?_eq_getElem hlt] at h
    cases h2 : w.cells? 0 (a.add (len * c)) c with
    | none => simp [h2] at h
    | some cs =>
      simp only [h2, Option.bind_some] at h
      obtain ⟨es, xs, i1, i2, i3, i4, i5, i6, i7, i8⟩ := open_elems hc hf he len (by omega)
      obtain ⟨avs, hO⟩ := hf cs _ h
      obtain ⟨c1, c2⟩ := cells_spec h2
      obtain ⟨m1, m2⟩ := mkAV_of hO.has
      refine ⟨es ++ [mkAV s avs], xs ++ cs, by simp [i1], ?_, ?_, ?_, ?_, ?_, ?_, ?_⟩
      · intro e he
        simp only [List.mem_append, List.mem_singleton] at he
        rcases he with he | rfl
        · exact i2 e he
        · exact m2
      · intro e he
        simp only [List.mem_append, List.mem_singleton] at he
        rcases he with he | rfl
        · exact i3 e he
        · exact mkAV_fit hO.has hO.fit
      · have : flat (es ++ [mkAV s avs]) = flat es ++ avs := by simp [flat, m1]
        rw [this]
        exact i4.append hO.rel
      · intro u hu
        simp only [List.mem_append] at hu
        rcases hu with hu | hu
        · exact i5 u hu
        · exact hO.one u hu
      · intro j u hu
        rcases Nat.lt_or_ge j xs.length with hj | hj
        · rw [List.getElem?_append_left hj] at hu; exact i6 j u hu
        · rw [List.getElem?_append_right hj] at hu
          have := c2 _ u hu
          rw [add_add, i7] at this
          have e : len * c + (j - len * c) = j := by rw [i7] at hj; omega
          rwa [e] at this
      · simp only [List.length_append, i7, c1]; rw [Nat.succ_mul]
      · rw [szs_append, List.take_add_one, List.getElem?_eq_getElem hlt, List.map_append, B.app]
        simp only [AV.szs, Option.toList_some, List.map_cons, List.map_nil, B.acons, B.anil]
        have := mkAV_sz hO.has
        have := hO.sz
        omega

/-- A struct's fields, one by one. -/
theorem open_fields {sh : TypeId → Sh} {ok : TypeId → Bool} {f : TypeId → List Value → Option (DataW H × List MemPlace)} (hf : ∀ t cs x, ok t = true → f t cs = some x → ∃ avs, Opened P w (sh t) cs avs (B.bk x.1)) (cs : List Value) :
    ∀ (fs : List Field) (off : Nat) (xs : List (DataW H × List MemPlace)), laidF P ok sh off fs cs.length = true → xs.length = fs.length → (∀ (i : Nat) (g : Field), fs[i]? = some g → f g.type ((cs.drop g.offset).take (P.cellsOf g.type)) = xs[i]?) →
      ∃ avs, VRels w (here w) nob avs (cs.drop off) ∧ hass (fs.flatMap fun g => (sh g.type).cells) avs = true ∧ (∀ c ∈ avs, Fit c) ∧ (∀ u ∈ cs.drop off, u.oneCell' = true) ∧ AV.szs avs ≤ B.all (xs.map (·.1))
  | [], off, xs, hl, _, h => by
    simp only [laidF, beq_iff_eq] at hl
    have hd : cs.drop off = [] := List.drop_eq_nil_of_le (by omega)
    rw [hd]
    exact ⟨[], VRels.nil, rfl, by simp, by simp, by simp [AV.szs]⟩
  | g :: fs, off, [], hl, hlen, h => by simp at hlen
  | g :: fs, off, x :: ys, hl, hlen, h => by
        simp only [laidF, Bool.and_eq_true, beq_iff_eq] at hl
        obtain ⟨h1, h2, h3, h4⟩ := hl
        have e1 : f g.type ((cs.drop g.offset).take (P.cellsOf g.type)) = some x := h 0 g rfl
        have e2 : ∀ (i : Nat) (g : Field), fs[i]? = some g → f g.type ((cs.drop g.offset).take (P.cellsOf g.type)) = ys[i]? := fun i g hg => h (i + 1) g hg
        obtain ⟨avs, hO⟩ := hf _ _ _ h3 e1
        obtain ⟨bvs, i1, i2, i3, i4, i5⟩ := open_fields hf cs fs _ ys h4 (by simpa using hlen) e2
        have hsp : cs.drop off = (cs.drop g.offset).take (P.cellsOf g.type) ++ cs.drop (off + P.cellsOf g.type) := by
          rw [h1, ← List.drop_drop, List.take_append_drop]
        refine ⟨avs ++ bvs, ?_, ?_, ?_, ?_, ?_⟩
        · rw [hsp]; exact hO.rel.append i1
        · rw [List.flatMap_cons]
          have happ : ∀ (l l' : List Sh) (a b : List AV), hass l a = true → hass l' b = true → hass (l ++ l') (a ++ b) = true := by
            intro l
            induction l with
            | nil => intro l' a b ha hb; cases a <;> simp [hass] at ha; exact hb
            | cons s l ih =>
              intro l' a b ha hb
              cases a with
              | nil => simp [hass] at ha
              | cons c a =>
                simp only [hass, Bool.and_eq_true] at ha
                simp only [List.cons_append, hass, Bool.and_eq_true]
                exact ⟨ha.1, ih l' a b ha.2 hb⟩
          exact happ _ _ _ _ hO.has i2
        · intro c hc
          simp only [List.mem_append] at hc
          rcases hc with hc | hc
          · exact hO.fit c hc
          · exact i3 c hc
        · intro u hu
          rw [hsp, List.mem_append] at hu
          rcases hu with hu | hu
          · exact hO.one u hu
          · exact i4 u hu
        · rw [szs_append]
          simp only [List.map_cons, B.acons]
          have := hO.sz
          omega

theorem open_cells : ∀ (fuel n : Nat) (t : TypeId) (cs : List Value) (x : DataW H × List MemPlace), tyOK P n t = true → DataW.trod enc P w 0 sp held fuel t cs = some x → ∃ avs, Opened P w (shOf P n t) cs avs (B.bk x.1)
  | 0, n, t, cs, x, _, h => by simp [DataW.trod] at h
  | fuel + 1, 0, t, cs, x, hn, _ => by simp [tyOK] at hn
  | fuel + 1, n + 1, t, cs, x, hn, h => by
    simp only [tyOK] at hn
    cases hu : P.underlying t with
    | none => simp [hu] at hn
    | some d =>
      simp only [hu] at hn
      cases d <;> simp only [Bool.false_eq_true] at hn
      case bool =>
        obtain ⟨b, rfl, rfl⟩ := DataW.trod_bool hu h
        refine ⟨[.bool b], VRels.cons (.bool _ b) VRels.nil, by simp [shOf, hu, Sh.cells, hass, has1], ?_, ?_, ?_⟩
        · intro c hc; simp at hc; subst hc; exact .bool b
        · intro c hc; simp at hc; subst hc; rfl
        · simp only [AV.szs, AV.sz]; exact B.lit _
      case int k =>
        obtain ⟨m, rfl, rfl, hw⟩ := DataW.trod_int hu h
        refine ⟨[.int k m], VRels.cons (.int _ k m) VRels.nil, by simp [shOf, hu, Sh.cells, hass, has1], ?_, ?_, ?_⟩
        · intro c hc; simp at hc; subst hc; exact .int k m hw
        · intro c hc; simp at hc; subst hc; rfl
        · simp only [AV.szs, AV.sz]; exact B.lit _
      case string =>
        obtain ⟨s, rfl, rfl, hs⟩ := DataW.trod_string hu h
        have hv : VRel w (here w) nob (.str s.data.toList) (.string s) := by
          have := VRel.str (w := w) (S := here w) nob s.data.toList
          simpa using this
        refine ⟨[.str s.data.toList], VRels.cons hv VRels.nil, by simp [shOf, hu, Sh.cells, hass, has1], ?_, ?_, ?_⟩
        · intro c hc; simp at hc; subst hc; exact .str _ hs
        · intro c hc; simp at hc; subst hc; rfl
        · simp only [AV.szs, AV.sz, B.str]; omega
      case slice e =>
        simp only [Bool.and_eq_true, beq_iff_eq] at hn
        obtain ⟨n1, n2, n3⟩ := hn
        have hsh : shOf P (n + 1) t = .slice (shOf P n e) := by simp [shOf, hu]
        rw [hsh]
        rcases DataW.trod_slice hu h with ⟨rfl, rfl⟩ | ⟨a, len, cap, elems, rest, m, hm, rfl, rfl, _, hlc, hcm, hel, hat, _, _⟩
        · refine ⟨[.slv (shOf P n e) []], VRels.cons (.slv _ _ [] none 0 ⟨0, 0, none⟩ [] (by simp) (Nat.le_refl _) (Nat.zero_le _) (fun h => absurd rfl h) rfl (by simp) (by simp) (by simp [flat])) VRels.nil, ?_, ?_, ?_, ?_⟩
          · simp only [Sh.cells, hass, has1, Bool.and_true]; exact beq_self n e n3
          · intro c hc; simp at hc; subst hc; exact .slv _ _ (Nat.zero_le _) (by simp) (by simp)
          · intro c hc; simp at hc; subst hc; rfl
          · simp only [AV.szs, AV.sz]; exact B.nil
        · obtain rfl : fuel = m := by omega
          subst hel
          obtain ⟨es, xs, i1, i2, i3, i4, i5, i6, i7, i8⟩ := open_elems (a := a) B n1 (fun cs x hx => open_cells fuel n e cs x n3 hx) (elems := elems) (fun i hi => hat i hi) elems.length (Nat.le_refl _)
          have hfl : (flat es).length = xs.length := i4.1.symm
          have hv : VRel w (here w) nob (.slv (shOf P n e) es) (.slice (some a) es.length cap) := by
            refine .slv _ _ es (some a) cap a xs i2 (by omega) hcm (fun hne => ⟨rfl, ?_⟩) hfl.symm i5 i6 (fun j c u hc hu => i4.2 j c u hc hu)
            have hpos : 0 < xs.length := by
              rw [i7]
              have : 0 < es.length := List.length_pos_iff.2 hne
              exact Nat.mul_pos (by omega) (Nat.le_of_ble_eq_true n2)
            have := i6 0 xs[0] (List.getElem?_eq_getElem hpos)
            have := cell_block this
            rwa [add_block] at this
          rw [i1] at hv
          refine ⟨[.slv (shOf P n e) es], VRels.cons hv VRels.nil, ?_, ?_, ?_, ?_⟩
          · simp only [Sh.cells, hass, has1, Bool.and_true]; exact beq_self n e n3
          · intro c hc; simp at hc; subst hc; exact .slv _ _ (by omega) i2 i3
          · intro c hc; simp at hc; subst hc; rfl
          · simp only [AV.szs, AV.sz, B.slice]
            rw [List.take_of_length_le (Nat.le_refl _)] at i8
            omega
      case struct fs =>
        obtain ⟨xs, m, hm, rfl, hlen, hxl, hat⟩ := DataW.trod_struct hu h
        obtain rfl : fuel = m := by omega
        rw [← hlen] at hn
        obtain ⟨avs, i1, i2, i3, i4, i5⟩ := open_fields B (f := fun t cs => DataW.trod enc P w 0 sp held fuel t cs) (fun t cs x ht hx => open_cells fuel n t cs x ht hx) cs fs.toList 0 xs hn (by simpa using hxl) (fun i g hg => hat i g (by simpa using hg))
        refine ⟨avs, by simpa using i1, ?_, i3, by simpa using i4, ?_⟩
        · simpa [shOf, hu, Sh.cells] using i2
        · rw [B.agg]; omega

/-- An argument. -/
theorem open_arg {n : Nat} {t : TypeId} {v : Value} {d : DataW H} {ps : List MemPlace} {r : Reach} {b0 : Nat} (hn : tyOK P n t = true) (hval : Value.okWide P w r b0 t v) (h : DataW.Trod enc P w 0 sp held t v d ps) :
    ∃ av, VRel w (here w) nob av v ∧ hasSh (shOf P n t) av = true ∧ Fit av ∧ av.sz ≤ B.bk d := by
  obtain ⟨fuel, h⟩ := h
  obtain ⟨avs, hO⟩ := open_cells B fuel n t _ _ hn h
  have hm := mkAV_of hO.has
  refine ⟨mkAV (shOf P n t) avs, ?_, hm.2, mkAV_fit hO.has hO.fit, Nat.le_trans (mkAV_sz hO.has) hO.sz⟩
  cases n with
  | zero => simp [tyOK] at hn
  | succ n =>
    have one : (∃ u, v = u ∧ v.cells.toList = [v]) → (mkAV (shOf P (n + 1) t) avs = avs.headD .unk) → VRel w (here w) nob (mkAV (shOf P (n + 1) t) avs) v := by
      rintro ⟨u, _, hv⟩ hmk
      have hrel := hO.rel
      rw [hv] at hrel
      rw [hmk]
      cases avs with
      | nil => simpa using hrel.1
      | cons c cs =>
        obtain ⟨v', vs', h1, h2, _⟩ := hrel.inv
        cases h1
        exact h2
    simp only [tyOK] at hn
    cases hu : P.underlying t with
    | none => simp [hu] at hn
    | some dd =>
      simp only [hu] at hn
      cases dd <;> simp only [Bool.false_eq_true] at hn
      case bool => obtain ⟨b, rfl⟩ := okWide_bool hu hval; exact one ⟨_, rfl, rfl⟩ (by simp [shOf, hu, mkAV])
      case int k => obtain ⟨b, rfl⟩ := okWide_int hu hval; exact one ⟨_, rfl, rfl⟩ (by simp [shOf, hu, mkAV])
      case string => obtain ⟨b, rfl⟩ := okWide_string hu hval; exact one ⟨_, rfl, rfl⟩ (by simp [shOf, hu, mkAV])
      case slice e =>
        refine one ⟨_, rfl, ?_⟩ (by simp [shOf, hu, mkAV])
        simp only [Value.okWide, hu, Cell.okWide] at hval
        cases v <;> simp_all [Cell.ok, Value.cells]
      case struct fs =>
        obtain ⟨cs, rfl, _⟩ := okWide_struct hu hval
        have hmk : mkAV (shOf P (n + 1) t) avs = .agg avs := by simp [shOf, hu, mkAV]
        rw [hmk]
        have := VRel.agg (w := w) (S := here w) nob avs cs.toList hO.rel.1 (fun u hu => hO.one u hu) (fun j c u hc hu => hO.rel.2 j c u hc hu)
        simpa using this
end open_
end Go.Ev
