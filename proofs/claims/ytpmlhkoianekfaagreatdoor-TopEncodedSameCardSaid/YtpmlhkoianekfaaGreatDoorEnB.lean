/-
  The library's functions, laid by the kit's tool at this program.
-/
import Derived.Test.YtpmlhkoianekfaaGreatDoorEvT
import Derived.WalkKit
import Derived.ProofKit
import Derived.OpenShut
import Derived.Below
import Derived.Carry
import Derived.ChangeSame
import Derived.JoinedCond
import Derived.WideKeyArgs
import Derived.Lib.Bytealg
import Derived.Lib.Overlaps
import Derived.Test.YtpmlhkoianekfaaGreatDoorChecked
import Derived.KernelRfl
import Derived.Shelf.Strings.Builder1
import Derived.Shelf.Strings.Builder2
import Derived.Shelf.Strings.Trim
import Derived.Shelf.Small.Utf8
import Derived.Shelf.Small.Bits
import Derived.Shelf.Small.Strs
import Derived.Shelf.Small.Wraps
import Derived.Shelf.Strings.BuilderF
import Derived.Shelf.Strings.BuilderK
import Derived.Shelf.Utf8.RuneCount
import Derived.Shelf.Strings.Builder2Cap
import Derived.Shelf.Strconv.Atoi
import Derived.Shelf.Strconv.Itoa0
import Derived.Shelf.Strconv.Itoa1
import Derived.Shelf.LaysM
import Derived.Shelf.Strconv.Itoa2
import Derived.Shelf.Strconv.Itoa3
import Derived.Shelf.Strconv.AtoiErrFast
import Derived.Shelf.Strconv.ParseIntEmpty
import Derived.Shelf.Strconv.AtoiFail
import Derived.Shelf.Strconv.Clone
import Derived.Shelf.Strconv.SyntaxError
import Derived.Shelf.Strconv.Lower
import Derived.Shelf.Strconv.ParseUint10
import Derived.Shelf.Strconv.ParseUint10Empty
import Derived.Shelf.Strconv.RangeError
import Derived.Shelf.Strconv.ParseUintEmpty
import Derived.Shelf.Strconv.ParseUint10b64
import Derived.Shelf.Strconv.ParseUint10b32
import Derived.Shelf.Strconv.ParseUint10b16
import Derived.Shelf.Strconv.ParseUint10b8
import Derived.Shelf.Strings.Search1
import Derived.Shelf.Strings.Search2
import Derived.Shelf.Strings.Search3
import Derived.Shelf.Strings.Cut
import Derived.Shelf.Strings.Count
import Derived.Shelf.Strings.Shaped
import Derived.Shelf.Strings.Prefix
import Derived.Shelf.Strings.Split
import Derived.Shelf.Strings.Replace
import Derived.Shelf.Strings.SplitShaped
import Derived.Shelf.Unicode.Decode
import Derived.Shelf.Strings.Runes
import Derived.Shelf.Strings.RuneCount
import Derived.Shelf.Strings.IndexAny
import Derived.Shelf.Strings.AsciiSet
import Derived.Shelf.Strings.IndexAnyAll
import Derived.Shelf.Bits.Mul64
import Derived.Shelf.Strings.Repeat
import Derived.Shelf.Unicode.DecodeSlow
import Derived.Shelf.Unicode.DecodeAny
import Derived.Shelf.Unicode.DecodeLast
import Derived.Shelf.Strings.MapAny
import Derived.Shelf.Strings.BuilderCap
import Derived.Shelf.Bytes.SlIndexSmall
import Derived.Shelf.Bytes.SlIndexAt
import Derived.Shelf.Bytes.SlSearch0
import Derived.Shelf.Bytes.SlSearch1
import Derived.Shelf.Bytes.SlSearch2
import Derived.Shelf.Bytes.SlIndexWhole
import Derived.Shelf.Bytes.SlSmallAll
import Derived.Shelf.Bytes.SlEqualAll
import Derived.Shelf.Bytes.Small
import Derived.Shelf.Bytes.IndexByte

namespace Go.Ev
open Go.RowKit Go.WideShapes Go.ChangeShapes
inductive Fit : AV → Prop where
  | int (k : IntKind) (n : Int) (h : (Lit.int k n).wf = true) : Fit (.int k n)
  | bool (b : Bool) : Fit (.bool b)
  | str (s : List UInt8) (h : s.length ≤ reachBytes) : Fit (.str s)
  | agg (cs : List AV) (h : ∀ c ∈ cs, Fit c) : Fit (.agg cs)
  | slv (s : Sh) (es : List AV) (h : es.length ≤ reachBytes) (hs : ∀ e ∈ es, hasSh s e = true) (hf : ∀ e ∈ es, Fit e) : Fit (.slv s es)
mutual
def AV.sz : AV → Nat
  | .str s => s.length + 1
  | .agg cs => AV.szs cs
  | .slv _ es => AV.szs es + 1
  | _ => 1
def AV.szs : List AV → Nat
  | [] => 0
  | c :: cs => c.sz + AV.szs cs
end
theorem szs_append (l r : List AV) : AV.szs (l ++ r) = AV.szs l + AV.szs r := by
  induction l with
  | nil => simp [AV.szs]
  | cons c l ih => simp only [List.cons_append, AV.szs, ih]; omega
structure BK (H : Type) where
  bk : DataW H → Nat
  all : List (DataW H) → Nat
  str : ∀ b, bk (.lit (.string b)) = b.length + 1
  lit : ∀ l, 1 ≤ bk (.lit l)
  nil : 1 ≤ bk .nil
  agg : ∀ l, bk (.agg l) = all l + 1
  slice : ∀ e s, bk (.slice e s) = all e + all s + 1
  anil : all [] = 0
  acons : ∀ d l, all (d :: l) = bk d + all l
theorem BK.app {H : Type} (B : BK H) (l r : List (DataW H)) : B.all (l ++ r) = B.all l + B.all r := by
  induction l with
  | nil => simp [B.anil]
  | cons c l ih => simp only [List.cons_append, B.acons, ih]; omega
def laidF (P : Program) (ok : TypeId → Bool) (sh : TypeId → Sh) : Nat → List Field → Nat → Bool
  | off, [], total => off == total
  | off, f :: fs, total => (f.offset == off) && ((P.cellsOf f.type == (sh f.type).width) && (ok f.type && laidF P ok sh (off + P.cellsOf f.type) fs total))
def tyOK (P : Program) : Nat → TypeId → Bool
  | 0, _ => false
  | n + 1, t =>
    match P.underlying t with
    | some (.int _) => true
    | some .bool => true
    | some .string => true
    | some (.slice e) => (P.cellsOf e == (shOf P n e).width) && ((Nat.blt 0 (P.cellsOf e) && Nat.blt 0 (P.bytesOf e)) && tyOK P n e)
    | some (.struct fs) => laidF P (tyOK P n) (shOf P n) 0 fs.toList (P.cellsOf t)
    | _ => false
theorem beqs_app : ∀ (l l' : List Sh), Sh.beqs l l = true → Sh.beqs l' l' = true → Sh.beqs (l ++ l') (l ++ l') = true
  | [], l', _, h => h
  | a :: l, l', h, h' => by
    simp only [Sh.beqs, Bool.and_eq_true] at h
    simp only [List.cons_append, Sh.beqs, Bool.and_eq_true]
    exact ⟨h.1, beqs_app l l' h.2 h'⟩
theorem beqs_cells {s : Sh} (h : Sh.beq s s = true) : Sh.beqs s.cells s.cells = true := by
  cases s <;> simp_all [Sh.cells, Sh.beqs, Sh.beq]
theorem beqs_fields {P : Program} {ok : TypeId → Bool} {sh : TypeId → Sh} (hok : ∀ t, ok t = true → Sh.beq (sh t) (sh t) = true) : ∀ (fs : List Field) (off total : Nat), laidF P ok sh off fs total = true →
    Sh.beqs (fs.flatMap fun f => (sh f.type).cells) (fs.flatMap fun f => (sh f.type).cells) = true
  | [], _, _, _ => rfl
  | f :: fs, off, total, h => by
    simp only [laidF, Bool.and_eq_true] at h
    rw [List.flatMap_cons]
    exact beqs_app _ _ (beqs_cells (hok _ h.2.2.1)) (beqs_fields hok fs _ _ h.2.2.2)
theorem beq_self {P : Program} : ∀ (n : Nat) (t : TypeId), tyOK P n t = true → Sh.beq (shOf P n t) (shOf P n t) = true
  | 0, _, h => by simp [tyOK] at h
  | n + 1, t, h => by
    simp only [tyOK] at h
    simp only [shOf]
    cases hu : P.underlying t with
    | none => simp [hu] at h
    | some d =>
      simp only [hu] at h
      cases d <;> simp only [Bool.false_eq_true] at h <;> simp only [Sh.beq, decide_true]
      case slice e =>
        simp only [Bool.and_eq_true] at h
        exact beq_self n e h.2.2
      case struct fs =>
        exact beqs_fields (fun t ht => beq_self n t ht) fs.toList _ _ h
section open_
variable {H : Type} {enc : TypeId × Value → H} {P : Program} {w : World} {sp : Nat → Bool} {held : Bool} (B : BK H)
def here (w : World) : Nat → Prop := fun b => b < w.heap.size
structure Opened (P : Program) (w : World) (s : Sh) (cs : List Value) (avs : List AV) (m : Nat) : Prop where
  rel : VRels w (here w) nob avs cs
  has : hass s.cells avs = true
  fit : ∀ c ∈ avs, Fit c
  one : ∀ u ∈ cs, u.oneCell' = true
  sz : AV.szs avs ≤ m
theorem mkAV_fit {s : Sh} {avs : List AV} (h : hass s.cells avs = true) (hf : ∀ c ∈ avs, Fit c) : Fit (mkAV s avs) := by
  have hc := mkAV_of h
  cases s with
  | agg l => exact .agg _ hf
  | _ =>
    cases avs with
    | nil => simp [Sh.cells, hass] at h
    | cons c cs => exact hf c (by simp)
theorem mkAV_sz {s : Sh} {avs : List AV} (h : hass s.cells avs = true) : (mkAV s avs).sz ≤ AV.szs avs := by
  cases s with
  | agg l => simp [mkAV, AV.sz]
  | _ =>
    cases avs with
    | nil => simp [Sh.cells, hass] at h
    | cons c cs => simp [mkAV, AV.szs]
theorem cell_block {a : Addr} {u : Value} (h : w.cell? a = some u) : a.block < w.heap.size := by
  unfold World.cell? at h
  rcases Nat.lt_or_ge a.block w.heap.size with h' | h'
  · exact h'
  · simp [Array.getElem?_eq_none h'] at h
theorem cells_spec {a : Addr} : ∀ {n : Nat} {cs : List Value}, w.cells? 0 a n = some cs → cs.length = n ∧ ∀ (j : Nat) (u : Value), cs[j]? = some u → w.cell? (a.add j) = some u := by
  intro n
  unfold World.cells?
  simp only [Nat.zero_le, if_true]
  induction n with
  | zero => intro cs h; simp at h; subst h; simp
  | succ n ih =>
    intro cs h
    rw [List.range_succ, List.mapM_append] at h
    cases h1 : (List.range n).mapM fun i => w.cell? (a.add i) with
    | none => simp [h1] at h
    | some l =>
      simp only [h1, Option.bind_eq_bind, Option.bind_some, List.mapM_cons, List.mapM_nil, Option.pure_def] at h
      cases h2 : w.cell? (a.add n) with
      | none => simp [h2] at h
      | some u =>
        simp only [h2, Option.bind_some, Option.some.injEq] at h
        subst h
        obtain ⟨h3, h4⟩ := ih h1
        refine ⟨by simp [h3], fun j x hx => ?_⟩
        rcases Nat.lt_or_ge j l.length with hj | hj
        · rw [List.getElem?_append_left hj] at hx; exact h4 j x hx
        · rw [List.getElem?_append_right hj] at hx
          have : j - l.length = 0 := by
            rcases Nat.eq_zero_or_pos (j - l.length) with h | h
            · exact h
            · rw [List.getElem?_eq_none (by simp; omega)] at hx; cases hx
          rw [this] at hx
          simp at hx
          have : j = n := by omega
          subst this
          rw [← hx]; exact h2
theorem all_mem {e : TypeId} : ∀ {l : List (DataW H)} {d : DataW H}, d ∈ l → ∀ n ∈ d.weights P e, n ∈ DataW.weightsAll P e l
  | d0 :: l, d, h, n, hn => by
    simp only [DataW.weightsAll, List.mem_append]
    rcases List.mem_cons.1 h with rfl | h
    · exact .inl hn
    · exact .inr (all_mem h n hn)
theorem open_elems {s : Sh} {c : Nat} {a : Addr} {f : List Value → Option (DataW H × List MemPlace)} (hc : c = s.width) {elems : List (DataW H × List MemPlace)} (hf : ∀ cs x, x ∈ elems → f cs = some x → ∃ avs, Opened P w s cs avs (B.bk x.1))
    (he : ∀ i, i < elems.length → (w.cells? 0 (a.add (i * c)) c).bind f = elems[i]?) :
    ∀ (len : Nat), len ≤ elems.length →
      ∃ (es : List AV) (xs : List Value), es.length = len ∧ (∀ e ∈ es, hasSh s e = true) ∧ (∀ e ∈ es, Fit e) ∧ VRels w (here w) nob (flat es) xs ∧ (∀ u ∈ xs, u.oneCell' = true) ∧
        (∀ (j : Nat) (u : Value), xs[j]? = some u → w.cell? (a.add j) = some u) ∧ xs.length = len * c ∧ AV.szs es ≤ B.all ((elems.take len).map (·.1))
  | 0, _ => ⟨[], [], rfl, by simp, by simp, VRels.nil, by simp, by simp, by simp, by simp [AV.szs]⟩
  | len + 1, hle => by
    have hlt : len < elems.length := by omega
    have h := he len hlt
    rw [List.getElem?_eq_getElem hlt] at h
    cases h2 : w.cells? 0 (a.add (len * c)) c with
    | none => simp [h2] at h
    | some cs =>
      simp only [h2, Option.bind_some] at h
      obtain ⟨es, xs, i1, i2, i3, i4, i5, i6, i7, i8⟩ := open_elems hc hf he len (by omega)
      obtain ⟨avs, hO⟩ := hf cs _ (List.getElem_mem hlt) h
      obtain ⟨c1, c2⟩ := cells_spec h2
      obtain ⟨m1, m2⟩ := mkAV_of hO.has
      refine ⟨es ++ [mkAV s avs], xs ++ cs, by simp [i1], ?_, ?_, ?_, ?_, ?_, ?_, ?_⟩
      · intro e he
        simp only [List.mem_append, List.mem_singleton] at he
        rcases he with he | rfl
        · exact i2 e he
        · exact m2
      · intro e he
        simp only [List.mem_append, List.mem_singleton] at he
        rcases he with he | rfl
        · exact i3 e he
        · exact mkAV_fit hO.has hO.fit
      · have : flat (es ++ [mkAV s avs]) = flat es ++ avs := by simp [flat, m1]
        rw [this]
        exact i4.append hO.rel
      · intro u hu
        simp only [List.mem_append] at hu
        rcases hu with hu | hu
        · exact i5 u hu
        · exact hO.one u hu
      · intro j u hu
        rcases Nat.lt_or_ge j xs.length with hj | hj
        · rw [List.getElem?_append_left hj] at hu; exact i6 j u hu
        · rw [List.getElem?_append_right hj] at hu
          have := c2 _ u hu
          rw [add_add, i7] at this
          have e : len * c + (j - len * c) = j := by rw [i7] at hj; omega
          rwa [e] at this
      · simp only [List.length_append, i7, c1]; rw [Nat.succ_mul]
      · rw [szs_append, List.take_add_one, List.getElem?_eq_getElem hlt, List.map_append, B.app]
        simp only [AV.szs, Option.toList_some, List.map_cons, List.map_nil, B.acons, B.anil]
        have := mkAV_sz hO.has
        have := hO.sz
        omega
theorem open_fields {sh : TypeId → Sh} {ok : TypeId → Bool} {f : TypeId → List Value → Option (DataW H × List MemPlace)} (hf : ∀ t cs x, ok t = true → (∀ n ∈ x.1.weights P t, n ≤ reachBytes) → f t cs = some x → ∃ avs, Opened P w (sh t) cs avs (B.bk x.1)) (cs : List Value) :
    ∀ (fs : List Field) (off : Nat) (xs : List (DataW H × List MemPlace)), laidF P ok sh off fs cs.length = true → xs.length = fs.length → (∀ n ∈ DataW.weightsEach P (fs.map (·.type)) (xs.map (·.1)), n ≤ reachBytes) → (∀ (i : Nat) (g : Field), fs[i]? = some g → f g.type ((cs.drop g.offset).take (P.cellsOf g.type)) = xs[i]?) →
      ∃ avs, VRels w (here w) nob avs (cs.drop off) ∧ hass (fs.flatMap fun g => (sh g.type).cells) avs = true ∧ (∀ c ∈ avs, Fit c) ∧ (∀ u ∈ cs.drop off, u.oneCell' = true) ∧ AV.szs avs ≤ B.all (xs.map (·.1))
  | [], off, xs, hl, _, _, h => by
    simp only [laidF, beq_iff_eq] at hl
    have hd : cs.drop off = [] := List.drop_eq_nil_of_le (by omega)
    rw [hd]
    exact ⟨[], VRels.nil, rfl, by simp, by simp, by simp [AV.szs]⟩
  | g :: fs, off, [], hl, hlen, _, h => by simp at hlen
  | g :: fs, off, x :: ys, hl, hlen, hz, h => by
        simp only [laidF, Bool.and_eq_true, beq_iff_eq] at hl
        obtain ⟨h1, h2, h3, h4⟩ := hl
        have e1 : f g.type ((cs.drop g.offset).take (P.cellsOf g.type)) = some x := h 0 g rfl
        have e2 : ∀ (i : Nat) (g : Field), fs[i]? = some g → f g.type ((cs.drop g.offset).take (P.cellsOf g.type)) = ys[i]? := fun i g hg => h (i + 1) g hg
        obtain ⟨avs, hO⟩ := hf _ _ _ h3 (fun n hn => hz n (by simp only [List.map_cons, DataW.weightsEach, List.mem_append]; exact .inl hn)) e1
        obtain ⟨bvs, i1, i2, i3, i4, i5⟩ := open_fields hf cs fs _ ys h4 (by simpa using hlen) (fun n hn => hz n (by simp only [List.map_cons, DataW.weightsEach, List.mem_append]; exact .inr hn)) e2
        have hsp : cs.drop off = (cs.drop g.offset).take (P.cellsOf g.type) ++ cs.drop (off + P.cellsOf g.type) := by
          rw [h1, ← List.drop_drop, List.take_append_drop]
        refine ⟨avs ++ bvs, ?_, ?_, ?_, ?_, ?_⟩
        · rw [hsp]; exact hO.rel.append i1
        · rw [List.flatMap_cons]
          have happ : ∀ (l l' : List Sh) (a b : List AV), hass l a = true → hass l' b = true → hass (l ++ l') (a ++ b) = true := by
            intro l
            induction l with
            | nil => intro l' a b ha hb; cases a <;> simp [hass] at ha; exact hb
            | cons s l ih =>
              intro l' a b ha hb
              cases a with
              | nil => simp [hass] at ha
              | cons c a =>
                simp only [hass, Bool.and_eq_true] at ha
                simp only [List.cons_append, hass, Bool.and_eq_true]
                exact ⟨ha.1, ih l' a b ha.2 hb⟩
          exact happ _ _ _ _ hO.has i2
        · intro c hc
          simp only [List.mem_append] at hc
          rcases hc with hc | hc
          · exact hO.fit c hc
          · exact i3 c hc
        · intro u hu
          rw [hsp, List.mem_append] at hu
          rcases hu with hu | hu
          · exact hO.one u hu
          · exact i4 u hu
        · rw [szs_append]
          simp only [List.map_cons, B.acons]
          have := hO.sz
          omega
theorem open_cells : ∀ (fuel n : Nat) (t : TypeId) (cs : List Value) (x : DataW H × List MemPlace), tyOK P n t = true → (∀ m ∈ x.1.weights P t, m ≤ reachBytes) → DataW.trod enc P w 0 sp held fuel t cs = some x → ∃ avs, Opened P w (shOf P n t) cs avs (B.bk x.1)
  | 0, n, t, cs, x, _, _, h => by simp [DataW.trod] at h
  | fuel + 1, 0, t, cs, x, hn, _, _ => by simp [tyOK] at hn
  | fuel + 1, n + 1, t, cs, x, hn, hz, h => by
    simp only [tyOK] at hn
    cases hu : P.underlying t with
    | none => simp [hu] at hn
    | some d =>
      simp only [hu] at hn
      cases d <;> simp only [Bool.false_eq_true] at hn
      case bool =>
        obtain ⟨b, rfl, rfl⟩ := DataW.trod_bool hu h
        refine ⟨[.bool b], VRels.cons (.bool _ b) VRels.nil, by simp [shOf, hu, Sh.cells, hass, has1], ?_, ?_, ?_⟩
        · intro c hc; simp at hc; subst hc; exact .bool b
        · intro c hc; simp at hc; subst hc; rfl
        · simp only [AV.szs, AV.sz]; exact B.lit _
      case int k =>
        obtain ⟨m, rfl, rfl, hw⟩ := DataW.trod_int hu h
        refine ⟨[.int k m], VRels.cons (.int _ k m) VRels.nil, by simp [shOf, hu, Sh.cells, hass, has1], ?_, ?_, ?_⟩
        · intro c hc; simp at hc; subst hc; exact .int k m hw
        · intro c hc; simp at hc; subst hc; rfl
        · simp only [AV.szs, AV.sz]; exact B.lit _
      case string =>
        obtain ⟨s, rfl, rfl, hs⟩ := DataW.trod_string hu h
        have hv : VRel w (here w) nob (.str s.data.toList) (.string s) := by
          have := VRel.str (w := w) (S := here w) nob s.data.toList
          simpa using this
        refine ⟨[.str s.data.toList], VRels.cons hv VRels.nil, by simp [shOf, hu, Sh.cells, hass, has1], ?_, ?_, ?_⟩
        · intro c hc; simp at hc; subst hc; exact .str _ (hz _ (by simp [DataW.weights]))
        · intro c hc; simp at hc; subst hc; rfl
        · simp only [AV.szs, AV.sz, B.str]; omega
      case slice e =>
        simp only [Bool.and_eq_true, beq_iff_eq] at hn
        obtain ⟨n1, ⟨n2, n4⟩, n3⟩ := hn
        have hsh : shOf P (n + 1) t = .slice (shOf P n e) := by simp [shOf, hu]
        rw [hsh]
        rcases DataW.trod_slice hu h with ⟨rfl, rfl⟩ | ⟨a, len, cap, elems, rest, m, hm, rfl, rfl, _, hlc, hcm, hel, hat, _, _⟩
        · refine ⟨[.slv (shOf P n e) []], VRels.cons (.slv _ _ [] none 0 ⟨0, 0, none⟩ [] (by simp) (Nat.le_refl _) (Nat.zero_le _) (fun h => absurd rfl h) rfl (by simp) (by simp) (by simp [flat])) VRels.nil, ?_, ?_, ?_, ?_⟩
          · simp only [Sh.cells, hass, has1, Bool.and_true]; exact beq_self n e n3
          · intro c hc; simp at hc; subst hc; exact .slv _ _ (Nat.zero_le _) (by simp) (by simp)
          · intro c hc; simp at hc; subst hc; rfl
          · simp only [AV.szs, AV.sz]; exact B.nil
        · obtain rfl : fuel = m := by omega
          subst hel
          have hze : ∀ x ∈ elems, ∀ m ∈ x.1.weights P e, m ≤ reachBytes := fun x hx m hm => hz m (by
            simp only [DataW.weights, hu, List.mem_cons, List.mem_append]
            exact .inr (.inl (all_mem (List.mem_map.2 ⟨x, hx, rfl⟩) m hm)))
          have hlz : elems.length ≤ reachBytes := by
            have h1 := hz ((elems.map (·.1)).length * P.bytesOf e + (rest.map (·.1)).length * P.bytesOf e) (by
              simp only [DataW.weights, hu, List.mem_cons]
              exact .inl (Nat.add_mul _ _ _).symm)
            rw [List.length_map] at h1
            have h2 : 0 < P.bytesOf e := Nat.le_of_ble_eq_true n4
            have h3 := Nat.le_mul_of_pos_right elems.length h2
            omega
          obtain ⟨es, xs, i1, i2, i3, i4, i5, i6, i7, i8⟩ := open_elems (a := a) B n1 (elems := elems) (fun cs x hm hx => open_cells fuel n e cs x n3 (hze x hm) hx) (fun i hi => hat i hi) elems.length (Nat.le_refl _)
          have hfl : (flat es).length = xs.length := i4.1.symm
          have hv : VRel w (here w) nob (.slv (shOf P n e) es) (.slice (some a) es.length cap) := by
            refine .slv _ _ es (some a) cap a xs i2 (by omega) hcm (fun hne => ⟨rfl, ?_⟩) hfl.symm i5 i6 (fun j c u hc hu => i4.2 j c u hc hu)
            have hpos : 0 < xs.length := by
              rw [i7]
              have : 0 < es.length := List.length_pos_iff.2 hne
              exact Nat.mul_pos (by omega) (Nat.le_of_ble_eq_true n2)
            have := i6 0 xs[0] (List.getElem?_eq_getElem hpos)
            have := cell_block this
            rwa [add_block] at this
          rw [i1] at hv
          refine ⟨[.slv (shOf P n e) es], VRels.cons hv VRels.nil, ?_, ?_, ?_, ?_⟩
          · simp only [Sh.cells, hass, has1, Bool.and_true]; exact beq_self n e n3
          · intro c hc; simp at hc; subst hc; exact .slv _ _ (by rw [i1]; exact hlz) i2 i3
          · intro c hc; simp at hc; subst hc; rfl
          · simp only [AV.szs, AV.sz, B.slice]
            rw [List.take_of_length_le (Nat.le_refl _)] at i8
            omega
      case struct fs =>
        obtain ⟨xs, m, hm, rfl, hlen, hxl, hat⟩ := DataW.trod_struct hu h
        obtain rfl : fuel = m := by omega
        rw [← hlen] at hn
        obtain ⟨avs, i1, i2, i3, i4, i5⟩ := open_fields B (f := fun t cs => DataW.trod enc P w 0 sp held fuel t cs) (fun t cs x ht hz hx => open_cells fuel n t cs x ht hz hx) cs fs.toList 0 xs hn (by simpa using hxl) (fun m hm => hz m (by simp only [DataW.weights, hu]; exact hm)) (fun i g hg => hat i g (by simpa using hg))
        refine ⟨avs, by simpa using i1, ?_, i3, by simpa using i4, ?_⟩
        · simpa [shOf, hu, Sh.cells] using i2
        · rw [B.agg]; omega
theorem open_arg {n : Nat} {t : TypeId} {v : Value} {d : DataW H} {ps : List MemPlace} {r : Reach} {b0 : Nat} (hn : tyOK P n t = true) (hval : Value.okWide P w r b0 t v) (hz : ∀ m ∈ d.weights P t, m ≤ reachBytes) (h : DataW.Trod enc P w 0 sp held t v d ps) :
    ∃ av, VRel w (here w) nob av v ∧ hasSh (shOf P n t) av = true ∧ Fit av ∧ av.sz ≤ B.bk d := by
  obtain ⟨fuel, h⟩ := h
  obtain ⟨avs, hO⟩ := open_cells B fuel n t _ _ hn hz h
  have hm := mkAV_of hO.has
  refine ⟨mkAV (shOf P n t) avs, ?_, hm.2, mkAV_fit hO.has hO.fit, Nat.le_trans (mkAV_sz hO.has) hO.sz⟩
  cases n with
  | zero => simp [tyOK] at hn
  | succ n =>
    have one : (∃ u, v = u ∧ v.cells.toList = [v]) → (mkAV (shOf P (n + 1) t) avs = avs.headD .unk) → VRel w (here w) nob (mkAV (shOf P (n + 1) t) avs) v := by
      rintro ⟨u, _, hv⟩ hmk
      have hrel := hO.rel
      rw [hv] at hrel
      rw [hmk]
      cases avs with
      | nil => simpa using hrel.1
      | cons c cs =>
        obtain ⟨v', vs', h1, h2, _⟩ := hrel.inv
        cases h1
        exact h2
    simp only [tyOK] at hn
    cases hu : P.underlying t with
    | none => simp [hu] at hn
    | some dd =>
      simp only [hu] at hn
      cases dd <;> simp only [Bool.false_eq_true] at hn
      case bool => obtain ⟨b, rfl⟩ := okWide_bool hu hval; exact one ⟨_, rfl, rfl⟩ (by simp [shOf, hu, mkAV])
      case int k => obtain ⟨b, rfl⟩ := okWide_int hu hval; exact one ⟨_, rfl, rfl⟩ (by simp [shOf, hu, mkAV])
      case string => obtain ⟨b, rfl⟩ := okWide_string hu hval; exact one ⟨_, rfl, rfl⟩ (by simp [shOf, hu, mkAV])
      case slice e =>
        refine one ⟨_, rfl, ?_⟩ (by simp [shOf, hu, mkAV])
        simp only [Value.okWide, hu, Cell.okWide] at hval
        cases v <;> simp_all [Cell.ok, Value.cells]
      case struct fs =>
        obtain ⟨cs, rfl, _⟩ := okWide_struct hu hval
        have hmk : mkAV (shOf P (n + 1) t) avs = .agg avs := by simp [shOf, hu, mkAV]
        rw [hmk]
        have := VRel.agg (w := w) (S := here w) nob avs cs.toList hO.rel.1 (fun u hu => hO.one u hu) (fun j c u hc hu => hO.rel.2 j c u hc hu)
        simpa using this
end open_
end Go.Ev


namespace Go.Ev
open Go.RowKit Go.WideShapes Go.ChangeShapes
def hasAll : List Sh → List AV → Bool
  | [], [] => true
  | s :: l, c :: cs => hasSh s c && hasAll l cs
  | _, _ => false
structure Given (ss : List Sh) (avs : List AV) (m : Nat) : Prop where
  has : hasAll ss avs = true
  fit : ∀ a ∈ avs, Fit a
  sz : AV.szs avs ≤ m
section
variable {H : Type} {enc : TypeId × Value → H} {P : Program}
theorem open_args (B : BK H) {n : Nat} {w : World} {sp : Nat → Bool} {held : Bool} {r : Reach} {b0 : Nat} : ∀ (ts : List TypeId) (vs : List Value) (ds : List (DataW H)) (ps : List MemPlace), (∀ t ∈ ts, tyOK P n t = true) →
    (∀ (j : Nat) (t : TypeId) (v : Value), ts[j]? = some t → vs[j]? = some v → Value.okWide P w r b0 t v) → (∀ m ∈ DataW.weightsEach P ts ds, m ≤ reachBytes) → DataW.TrodAll enc P w 0 sp held ts vs ds ps →
    ∃ avs, VRels w (here w) nob avs vs ∧ Given (ts.map (shOf P n)) avs (B.all ds) ∧ ds.length = ts.length
  | [], [], [], ps, _, _, _, _ => ⟨[], VRels.nil, ⟨rfl, by simp, by simp [AV.szs]⟩, rfl⟩
  | [], [], _ :: _, ps, _, _, _, h => h.elim
  | [], _ :: _, _, ps, _, _, _, h => by cases ‹List (DataW H)› <;> exact h.elim
  | _ :: _, [], _, ps, _, _, _, h => by cases ‹List (DataW H)› <;> exact h.elim
  | _ :: _, _ :: _, [], ps, _, _, _, h => h.elim
  | t :: ts, v :: vs, d :: ds, ps, ht, hv, hz, h => by
    obtain ⟨p, q, h1, h2, rfl⟩ := h
    obtain ⟨av, a1, a2, a3, a4⟩ := open_arg B (ht t (by simp)) (hv 0 t v rfl rfl) (fun m hm => hz m (by simp only [DataW.weightsEach, List.mem_append]; exact .inl hm)) h1
    obtain ⟨avs, i1, i2, i3⟩ := open_args B ts vs ds q (fun t' h' => ht t' (by simp [h'])) (fun j t' v' h1 h2 => hv (j + 1) t' v' h1 h2) (fun m hm => hz m (by simp only [DataW.weightsEach, List.mem_append]; exact .inr hm)) h2
    refine ⟨av :: avs, VRels.cons a1 i1, ⟨?_, ?_, ?_⟩, by simp [i3]⟩
    · simp only [List.map_cons, hasAll, Bool.and_eq_true]; exact ⟨a2, i2.has⟩
    · intro a ha
      simp only [List.mem_cons] at ha
      rcases ha with rfl | ha
      · exact a3
      · exact i2.fit a ha
    · simp only [AV.szs, B.acons]
      have := i2.sz
      omega
theorem keep_args {W W' : World} {sp : Nat → Bool} (hl : laidOutB P = true) (hb : Below W.heap.size W W') : ∀ (ts : List TypeId) (vs : List Value) (ds : List (DataW H)) (ps : List MemPlace), (∀ t ∈ ts, P.readableRec t = true ∧ t < P.types.size) →
    DataW.TrodAll enc P W 0 (fun _ => true) true ts vs ds ps → (∀ x ∈ ps, x.block < W.heap.size) → (∀ x ∈ ps, sp x.block = true) → DataW.TrodAll enc P W' 0 sp true ts vs ds ps
  | [], [], [], ps, _, h, _, _ => h
  | [], [], _ :: _, ps, _, h, _, _ => h.elim
  | [], _ :: _, _, ps, _, h, _, _ => by cases ‹List (DataW H)› <;> exact h.elim
  | _ :: _, [], _, ps, _, h, _, _ => by cases ‹List (DataW H)› <;> exact h.elim
  | _ :: _, _ :: _, [], ps, _, h, _, _ => h.elim
  | t :: ts, v :: vs, d :: ds, ps, ht, h, hlt, hs => by
    obtain ⟨p, q, h1, h2, rfl⟩ := h
    refine ⟨p, q, ?_, keep_args hl hb ts vs ds q (fun t' h' => ht t' (by simp [h'])) h2 (fun x hx => hlt x (by simp [hx])) (fun x hx => hs x (by simp [hx])), rfl⟩
    obtain ⟨r1, r2⟩ := ht t (by simp)
    exact WideElems.Trod_stays hl r1 r2 h1 (fun x hx => hb.same (hlt x (by simp [hx]))) (fun x hx => hs x (by simp [hx]))
theorem post_of_below {f : Func} {s : ChangeSpec} {apart fresh handsOn again : Bool} {W W' : World} {args : Array Value} {v : Value} {ds gs : List (DataW H)} {before pa pv : List MemPlace}
    (hW : DataW.Whole enc P f.params.toList s.vars apart W args.toList ds gs before)
    (hres : ∀ (b : Nat) (sp : Nat → Bool) (hd : Bool), DataW.TrodAll enc P W' b sp hd f.resultTypes.toList (v.resultList f.resultTypes.size) (s.fn H (ds ++ gs)).results [])
    (hargs : ∀ sp : Nat → Bool, (∀ p ∈ before, sp p.block = true) → DataW.TrodAll enc P W' 0 sp true f.params.toList args.toList (s.fn H (ds ++ gs)).args pa)
    (hvars : ∀ sp : Nat → Bool, (∀ p ∈ before, sp p.block = true) → DataW.TrodVars enc P W' sp s.vars (s.fn H (ds ++ gs)).vars pv)
    (hps : before = pa ++ pv) (hb : Below W.heap.size W W')
    (hok : ∀ (j : Nat) (t : TypeId) (r : Value), f.resultTypes[j]? = some t → (v.resultList f.resultTypes.size)[j]? = some r → Value.okWide P W' .any 0 t r) :
    s.post enc P f apart fresh handsOn again W args v W' := by
  have hlt : ∀ p ∈ before, p.block < W.heap.size := fun p hp => hW.lt p hp
  have hold : ∀ p ∈ before, (fun b => decide (b < W.heap.size)) p.block = true := fun p hp => by simpa using hlt p hp
  refine ⟨ds, gs, before, [], pa, pv, hW, hres _ _ _, hargs _ hold, hvars _ hold, World.keptBut_mono (fun p hp => ⟨hp, ?_⟩) (hb.frame (· ∈ before)), fun _ => ?_⟩
  · rw [hps, List.mem_append] at hp
    exact Or.inr hp
  · obtain ⟨_, _, _, _, _, hz, hn⟩ := hW
    refine ⟨hok, _, _, ([] ++ pa) ++ pv, ⟨[] ++ pa, pv, trodAll_append (hargs _ (fun _ _ => rfl)) (hres _ _ _), hvars _ (fun _ _ => rfl), rfl, ?_, ?_⟩, ?_⟩
    · intro b off hp
      have hin : MemPlace.cell b off ∈ before := by rw [hps]; simpa using hp
      rw [hb.frozen (hlt _ hin)]
      exact hz b off hin
    · intro ha
      have := hn ha
      rw [hps] at this
      simpa using this
    · intro p hp _
      rw [hps]
      simpa using hp
def parsOK (P : Program) (n : Nat) (ts : List TypeId) : Bool := ts.all fun t => tyOK P n t && (P.readableRec t && Nat.blt t P.types.size)
theorem contract_of (B : BK H) {n : Nat} {f : FuncId} {fn : Func} {s : ChangeSpec} {F : Summ} {tb : TypeId} (hl : laidOutB P = true) (hp : parsOK P n fn.params.toList = true) (hbody : hasBody P f = true) (hv : s.vars = []) (hr : fn.resultTypes = #[tb]) (hub : P.underlying tb = some .bool)
    (hs : ∀ ds : List (DataW H), ds.length = fn.params.size → s.fn H ds = { results := [.lit (.bool true)], args := ds }) (hF : SumOK P f F)
    {W : World} {base : Nat} {args : Array Value} {ds gs : List (DataW H)} {before : List MemPlace}
    (hlaw : ∀ avs, Given (fn.params.toList.map (shOf P n)) avs (B.all (ds ++ gs)) → F AV avs some = some (.bool true))
    (hval : ∀ (j : Nat) t v, fn.params[j]? = some t → args[j]? = some v → Value.okWide P W .any base t v)
    (hz : (DataW.weightsEach P (fn.params.toList ++ s.plain.varTypes P) (ds ++ gs)).all (· ≤ reachBytes) = true)
    (hW : DataW.Whole enc P fn.params.toList s.vars false W args.toList ds gs before) (hG : Glb (fun b => b < W.heap.size) W := by exact fun _ _ => trivial) :
    Calls P f args W fun e W' => ∃ v, e = .returned v ∧ s.post enc P fn false true false false W args v W' := by
  have hW' := hW
  obtain ⟨p, q, hA, hV, rfl, hfz, hnd⟩ := hW
  rw [hv] at hV
  have hgs : gs = [] ∧ q = [] := by
    cases gs with
    | nil => exact ⟨rfl, hV⟩
    | cons => exact hV.elim
  obtain ⟨rfl, rfl⟩ := hgs
  simp only [parsOK, List.all_eq_true, Bool.and_eq_true] at hp
  have hz' : ∀ m ∈ DataW.weightsEach P fn.params.toList ds, m ≤ reachBytes := by
    have hvt : s.plain.varTypes P = [] := by
      show s.vars.filterMap _ = _
      rw [hv]; rfl
    rw [hvt, List.append_nil, List.append_nil] at hz
    exact fun m hm => by simpa using List.all_eq_true.1 hz m hm
  obtain ⟨avs, i1, i2, i3⟩ := open_args B fn.params.toList args.toList ds p (fun t ht => (hp t ht).1) (fun j t v h1 h2 => hval j t v (by simpa using h1) (by simpa using h2)) hz' hA
  have hlw := hlaw avs (by simpa using i2)
  have hc := (hF AV W (here W) avs args.toList some _ ⟨fun b hb => hb, hG⟩ i1 hlw).calls hbody
  have hlt : ∀ x ∈ p, x.block < W.heap.size := fun x hx => hW'.lt x (by simpa using hx)
  have hsfn := hs ds (by simpa using i3)
  simp only [Array.toArray_toList] at hc
  refine hc.mono fun e W' he => ?_
  obtain ⟨v, av, S', rfl, hk, hb, _, _, hvr⟩ := he
  cases hk
  have hvv : v = .bool true := hvr.bool_inv
  subst hvv
  refine ⟨_, rfl, post_of_below (pa := p) (pv := []) hW' ?_ ?_ ?_ (by simp) hb ?_⟩
  · intro b sp hd
    rw [List.append_nil, hsfn, hr]
    exact ⟨[], [], ⟨1, by simp [DataW.trod, Value.cells, hub]⟩, rfl, rfl⟩
  · intro sp hsp
    rw [List.append_nil, hsfn]
    exact keep_args hl hb _ _ _ _ (fun t ht => ⟨(hp t ht).2.1, Nat.le_of_ble_eq_true (hp t ht).2.2⟩) hA hlt (fun x hx => hsp x (by simpa using hx))
  · intro sp _
    rw [List.append_nil, hsfn, hv]
    rfl
  · intro j t r h1 h2
    rw [hr] at h1 h2
    cases j with
    | zero =>
      simp [Value.resultList] at h1 h2
      subst h1; subst h2
      simp only [Value.okWide, hub, Cell.okWide, Cell.ok]
    | succ j => simp at h1
end
end Go.Ev


namespace Go.Ev
open Go.RowKit
section nat
variable {P : Program} {Γ : Env} {K : List (Nat × Loop)}
theorem decideAt_bind {ρ : Type} (ops : List Oper) (i : Nat) (dst : Option Tmp) (st : St) (f : St → Option St) (g : St → Option ρ) (k : St → Option ρ) (h : ∀ s, g s = (f s).bind k) : decideAt ops i dst st g = (decideAt ops i dst st f).bind k := by
  unfold decideAt
  split
  · split
    · split
      · rename_i b _; cases b <;> simp only [cond_true, cond_false, h]
      · rfl
    · rfl
  · exact h st
theorem evOps_bind (hN : NatOK Γ) {ρ : Type} (rid : Nat) (ops : List Oper) (bef : Option (List (List Nat))) (k : St → Option ρ) : ∀ (l : List Oper) (i : Nat) (st : St), evOps P Γ rid ops bef k i l st = (evOps P Γ rid ops bef some i l st).bind k
  | [], i, st => rfl
  | o :: rest, i, st => by
    have ih := evOps_bind hN rid ops bef k rest (i + 1)
    have run : ∀ rows, evOp P Γ (rid * 64 + i) o st.tm rows (fun e => if freshB (rid * 64 + i) e st.used then (apply (rid * 64 + i) o.dst e st).force fun st1 => decideAt ops i o.dst st1 (evOps P Γ rid ops bef k (i + 1) rest) else none) =
        (evOp P Γ (rid * 64 + i) o st.tm rows (fun e => if freshB (rid * 64 + i) e st.used then (apply (rid * 64 + i) o.dst e st).force fun st1 => decideAt ops i o.dst st1 (evOps P Γ rid ops bef some (i + 1) rest) else none)).bind k := fun rows => by
      rw [evOp_bind hN, evOp_bind hN (y := fun e => if freshB (rid * 64 + i) e st.used then (apply (rid * 64 + i) o.dst e st).force fun st1 => decideAt ops i o.dst st1 (evOps P Γ rid ops bef some (i + 1) rest) else none)]
      cases evOp P Γ (rid * 64 + i) o st.tm rows some with
      | none => rfl
      | some e =>
        simp only [Option.bind_some, St.force_eq]
        split
        · exact decideAt_bind ops i o.dst _ _ _ k ih
        · rfl
    have fin : ∀ rows, (match o.guard with
        | none => evOp P Γ (rid * 64 + i) o st.tm rows fun e => if freshB (rid * 64 + i) e st.used then (apply (rid * 64 + i) o.dst e st).force fun st1 => decideAt ops i o.dst st1 (evOps P Γ rid ops bef k (i + 1) rest) else none
        | some (j, want) =>
          match guardAt ops st.tm j with
          | .bool b => bif b == want then
              evOp P Γ (rid * 64 + i) o st.tm rows fun e => if freshB (rid * 64 + i) e st.used then (apply (rid * 64 + i) o.dst e st).force fun st1 => decideAt ops i o.dst st1 (evOps P Γ rid ops bef k (i + 1) rest) else none
            else evOps P Γ rid ops bef k (i + 1) rest ⟨putTm st.tm o.dst .undef, st.rows, st.used⟩
          | .undef => evOps P Γ rid ops bef k (i + 1) rest ⟨putTm st.tm o.dst .undef, st.rows, st.used⟩
          | _ => none) = Option.bind (match o.guard with
        | none => evOp P Γ (rid * 64 + i) o st.tm rows fun e => if freshB (rid * 64 + i) e st.used then (apply (rid * 64 + i) o.dst e st).force fun st1 => decideAt ops i o.dst st1 (evOps P Γ rid ops bef some (i + 1) rest) else none
        | some (j, want) =>
          match guardAt ops st.tm j with
          | .bool b => bif b == want then
              evOp P Γ (rid * 64 + i) o st.tm rows fun e => if freshB (rid * 64 + i) e st.used then (apply (rid * 64 + i) o.dst e st).force fun st1 => decideAt ops i o.dst st1 (evOps P Γ rid ops bef some (i + 1) rest) else none
            else evOps P Γ rid ops bef some (i + 1) rest ⟨putTm st.tm o.dst .undef, st.rows, st.used⟩
          | .undef => evOps P Γ rid ops bef some (i + 1) rest ⟨putTm st.tm o.dst .undef, st.rows, st.used⟩
          | _ => none) k := fun rows => by
      cases o.guard with
      | none => exact run _
      | some p =>
        obtain ⟨j, want⟩ := p
        simp only
        cases guardAt ops st.tm j <;> try rfl
        · exact ih _
        · rename_i b
          simp only
          generalize (b == want) = c
          cases c
          · exact ih _
          · exact run _
    exact fin _
theorem unrL_nat {f : (ρ : Type) → St → (Ex → St → Option ρ) → Option ρ} (hf : ∀ (ρ : Type) (st : St) (k : Ex → St → Option ρ), f ρ st k = (f (Ex × St) st fun e st' => some (e, st')).bind fun p => k p.1 p.2) :
    ∀ (n : Nat) (ρ : Type) (st : St) (k : Ex → St → Option ρ), unrL f n ρ st k = (unrL f n (Ex × St) st fun e st' => some (e, st')).bind fun p => k p.1 p.2
  | 0, _, _, _ => rfl
  | n + 1, ρ, st, k => by
    unfold unrL
    refine Eq.trans (hf ρ st _) (Eq.symm (Eq.trans (congrArg (fun o => Option.bind o _) (hf (Ex × St) st _)) ?_))
    cases f (Ex × St) st fun e st' => some (e, st') with
    | none => rfl
    | some p =>
      obtain ⟨e, st'⟩ := p
      cases e with
      | normal => exact (unrL_nat hf n ρ st' k).symm
      | exit id => rfl
      | ret => rfl
theorem evC_bind (hN : NatOK Γ) (hfk : Γ.fork = false) : ∀ (c : Code), KOK P Γ K c → ∀ (ρ : Type) (st : St) (k : Ex → St → Option ρ), evC P Γ K c ρ st k = (evC P Γ K c (Ex × St) st fun e st' => some (e, st')).bind fun p => k p.1 p.2 := by
  intro c
  induction c with
  | skip => intro _ ρ st k; rfl
  | label l => intro _ ρ st k; rfl
  | region id ops draw =>
    intro _ ρ st k
    simp only [evC]
    split
    · split
      · split
        · rw [evOps_bind hN, evOps_bind hN (k := fun st' => some (Ex.normal, st'))]
          cases evOps P Γ id ops.toList (some (ancTab ops.toList)) some 0 ops.toList st <;> rfl
        · rfl
      · rw [evOps_bind hN, evOps_bind hN (k := fun st' => some (Ex.normal, st'))]
        cases evOps P Γ id ops.toList none some 0 ops.toList st <;> rfl
    · rfl
  | seq x z ihx ihz =>
    intro hK ρ st k
    simp only [evC]
    refine Eq.trans (ihx hK.seqL ρ st _) (Eq.symm (Eq.trans (congrArg (fun o => Option.bind o _) (ihx hK.seqL (Ex × St) st _)) ?_))
    cases evC P Γ K x (Ex × St) st fun e st' => some (e, st') with
    | none => rfl
    | some p =>
      obtain ⟨e, st'⟩ := p
      cases e with
      | normal => exact (ihz hK.seqR ρ st' k).symm
      | exit i => rfl
      | ret => rfl
  | cond c x z ihx ihz =>
    intro hK ρ st k
    simp only [evC]
    split
    · rename_i t _
      cases t
      · exact ihz hK.condR ρ st k
      · exact ihx hK.condL ρ st k
    · rw [hfk]; rfl
    · rfl
  | block id b ih =>
    intro hK ρ st k
    simp only [evC]
    refine Eq.trans (ih hK.block ρ st _) (Eq.symm (Eq.trans (congrArg (fun o => Option.bind o _) (ih hK.block (Ex × St) st _)) ?_))
    cases evC P Γ K b (Ex × St) st fun e st' => some (e, st') with
    | none => rfl
    | some p =>
      obtain ⟨e, st'⟩ := p
      cases e with
      | normal => rfl
      | ret => rfl
      | exit i => simp only [Option.bind_some]; split <;> rfl
  | loop b ih =>
    intro hK ρ st k
    simp only [evC]
    split
    · rename_i l hl
      split
      · rw [St.force_eq, St.force_eq]
        have hn := (hK b (by simp [loopsOf]) l hl).2
        rw [hn, hn (k := fun e vs rs => some (e, expand l.N vs rs))]
        generalize l.L _ _ _ _ = x
        cases x <;> rfl
      · rfl
    · exact unrL_nat (fun ρ st k => ih hK.loop ρ st k) Γ.unroll ρ st k
  | exit id => intro _ ρ st k; rfl
  | ret => intro _ ρ st k; rfl
  | rangeFunc g ps assign body _ _ =>
    intro hK ρ st k
    simp only [evC]
    split
    · rename_i key site hrng
      split
      · rename_i gf caps hg
        split
        · rename_i F hF
          split
          · rw [evX_bind (hN.2.1 _ F hF), evX_bind (hN.2.1 _ F hF) (y := fun e => if freshB site e (site :: st.used) then (apply site none e ⟨st.tm, setRow st.rows site (rngRow key st), site :: st.used⟩).force fun st2 => rngEnd site st2 (fun e st' => some (e, st')) else none)]
            cases evX site F (.own site :: caps) (setRow st.rows site (rngRow key st)) some with
            | none => rfl
            | some e =>
              simp only [Option.bind_some]
              split
              · rw [St.force_eq, St.force_eq]
                unfold rngEnd
                split <;> rfl
              · rfl
          · rfl
        · rfl
      · rfl
    · rfl
  | scope b _ => intro _ ρ st k; rfl
  | goto l => intro _ ρ st k; rfl
  | refuse why => intro _ ρ st k; rfl
def after (l : Loop) (μ : List AV → List (Option Row) → Nat) (m : Nat) {ρ : Type} (k : Ex → List AV → List (Option Row) → Option ρ) (e : Ex) (st : St) : Option ρ :=
  if Nat.beq st.tm.length l.N.len then (norm l.N st).force fun st1 => (match e with
    | .normal => bif decide (μ (valsOf l.N st1) (rowsN l.N st1) < m) then l.L ρ (valsOf l.N st1) (rowsN l.N st1) k else none
    | e => k e (valsOf l.N st1) (rowsN l.N st1)) else none
theorem loopOK_of (hN : NatOK Γ) (hfk : Γ.fork = false) {b : Code} {l : Loop} (hK : KOK P Γ K b) (μ : List AV → List (Option Row) → Nat)
    (hround : ∀ (ρ : Type) (vs : List AV) (rs : List (Option Row)) (k : Ex → List AV → List (Option Row) → Option ρ) (r : ρ), l.L ρ vs rs k = some r → evC P Γ K b ρ (expand l.N vs rs) (after l μ (μ vs rs) k) = some r)
    (hnat : ∀ (ρ : Type) (vs : List AV) (rs : List (Option Row)) (k : Ex → List AV → List (Option Row) → Option ρ), l.L ρ vs rs k = (l.L (Ex × List AV × List (Option Row)) vs rs fun e v x => some (e, v, x)).bind fun q => k q.1 q.2.1 q.2.2) : LoopOK P Γ K b l := by
  refine ⟨?_, hnat⟩
  intro ρ vs rs k r h
  generalize hm : μ vs rs = m
  induction m using Nat.strongRecOn generalizing vs rs with
  | ind m ih =>
    subst hm
    have h1 := hround ρ vs rs k r h
    rw [evC_bind hN hfk b hK] at h1
    cases hb : evC P Γ K b (Ex × St) (expand l.N vs rs) fun e st' => some (e, st') with
    | none => rw [hb] at h1; cases h1
    | some q =>
      rw [hb, Option.bind_some] at h1
      obtain ⟨e, st'⟩ := q
      unfold after at h1
      split at h1
      · rename_i hlen
        rw [St.force_eq] at h1
        have fin : ∀ (e' : Ex), e' ≠ .normal → e = e' → k e' (valsOf l.N (norm l.N st')) (rowsN l.N (norm l.N st')) = some r → ∃ m p, iter l.N (fun st => evC P Γ K b (Ex × St) st fun e st' => some (e, st')) m vs rs = some p ∧ k p.1 p.2.1 p.2.2 = some r := by
          intro e' hne he hk
          subst he
          refine ⟨1, (e, valsOf l.N (norm l.N st'), rowsN l.N (norm l.N st')), ?_, hk⟩
          cases e with
          | normal => exact absurd rfl hne
          | exit i => simp only [iter, hb, hlen, if_true]
          | ret => simp only [iter, hb, hlen, if_true]
        cases e with
        | normal =>
          obtain ⟨hlt, h2⟩ := bif_some h1
          have hlt' := of_decide_eq_true hlt
          obtain ⟨m, p, i1, i2⟩ := ih _ hlt' _ _ h2 rfl
          exact ⟨m + 1, p, by simp only [iter, hb, hlen, if_true]; exact i1, i2⟩
        | exit i => exact fin _ (by simp) rfl h1
        | ret => exact fin _ (by simp) rfl h1
      · cases h1
theorem finish_bind {ρ : Type} (fn : Func) (st : St) (k : AV → Option ρ) : finish P fn st k = (finish P fn st some).bind k := by
  rw [finish_eq, finish_eq]
  unfold finish0
  repeat' split
  all_goals rfl
theorem snat_evF (hN : NatOK Γ) (hfk : Γ.fork = false) {fn : Func} (hK : ∀ c, fn.body = some c → KOK P Γ K c) : SNat (evF P Γ K fn) := by
  intro ρ avs k
  unfold evF
  split
  · rfl
  · rename_i c hc
    rw [St.force_eq, St.force_eq]
    refine Eq.trans (evC_bind hN hfk c (hK c hc) ρ _ _) (Eq.symm (Eq.trans (congrArg (fun o => Option.bind o _) (evC_bind hN hfk c (hK c hc) AV _ _)) ?_))
    cases evC P Γ K c (Ex × St) (St.mk (avs ++ List.replicate (fn.ntmps - avs.length) .undef) [] []) fun e st' => some (e, st') with
    | none => rfl
    | some p =>
      obtain ⟨e, st'⟩ := p
      cases e with
      | normal => exact (finish_bind fn st' k).symm
      | ret => exact (finish_bind fn st' k).symm
      | exit i => rfl
theorem sumOK_inline (hΓ : GOK P Γ) (hD : DrawOK P Γ) {f : FuncId} {fn : Func} (hfn : P.funcs[f]? = some fn) (hK : ∀ c, fn.body = some c → KOK P Γ K c) (hrg : Γ.rng = [] := by rfl) : SumOK P f (evF P Γ K fn) :=
  sumOK_of hΓ hD hfn (fun _ _ _ _ h => ⟨K, hK, h⟩) hrg
theorem finishX_bind {ρ : Type} (fn : Func) (np : Nat) (st : St) (k : AV → List (Option Row) → List Row → Option ρ) : finishX P fn np st k = (finishX P fn np st fun v p n => some (v, p, n)).bind fun x => k x.1 x.2.1 x.2.2 := by
  unfold finishX
  split
  · rfl
  · split
    · rfl
    · simp only
      split
      · rfl
      · split <;> rfl
theorem homes_bind {ρ σ : Type} (k : St → Option ρ) (k' : St → Option σ) (g : σ → Option ρ) (h : ∀ st, k st = (k' st).bind g) : ∀ (H : List (Nat × Nat × TypeId)) (st : St), homes H st k = (homes H st k').bind g
  | [], st => h st
  | x :: H, st => by
    have ih := homes_bind k k' g h H
    simp only [homes, homeK]
    repeat' split
    all_goals first | exact ih _ | (generalize Nat.ble _ _ = c; cases c <;> first | rfl | exact ih _)
theorem xnat_evFX (hN : NatOK Γ) (hfk : Γ.fork = false) {fn : Func} (H : List (Nat × Nat × TypeId)) (hK : ∀ c, fn.body = some c → KOK P Γ K c) : XNat (evFX P Γ K H fn) := by
  intro ρ avs rows k
  unfold evFX
  split
  · rfl
  · rename_i c hc
    rw [St.force_eq, St.force_eq]
    refine Eq.trans (evC_bind hN hfk c (hK c hc) ρ _ _) (Eq.symm (Eq.trans (congrArg (fun o => Option.bind o _) (evC_bind hN hfk c (hK c hc) _ _ _)) ?_))
    cases evC P Γ K c (Ex × St) (St.mk (avs ++ List.replicate (fn.ntmps - avs.length) .undef) (zipIds PID rows) (List.range' PID rows.length)) fun e st' => some (e, st') with
    | none => rfl
    | some p =>
      obtain ⟨e, st'⟩ := p
      cases e with
      | normal => exact (homes_bind _ _ _ (fun st => finishX_bind fn _ st k) H st').symm
      | ret => exact (homes_bind _ _ _ (fun st => finishX_bind fn _ st k) H st').symm
      | exit i => rfl
theorem GOK.cons {f : Nat} {F : Summ} (hΓ : GOK P Γ) (hF : SumOK P f F) (hn : SNat F) : GOK P { Γ with pure := (f, F) :: Γ.pure } := by
  refine ⟨fun g G h => ?_, fun g G h => ?_, hΓ.opens, hΓ.nat, hΓ.yld⟩
  · simp only [find, findIn] at h
    split at h
    · rename_i e; cases h; subst e; exact hF
    · exact hΓ.pure g G h
  · simp only [find, findIn] at h
    split at h
    · cases h; exact hn
    · exact hΓ.snat g G h
theorem GOK.consX {f : Nat} {F : SummX} (hΓ : GOK P Γ) (hF : XOK P f F) (hn : XNat F) : GOK P { Γ with opens := (f, F) :: Γ.opens } := by
  refine ⟨hΓ.pure, hΓ.snat, fun g G h => ?_, fun g G h => ?_, hΓ.yld⟩
  · simp only [findX, findIn] at h
    split at h
    · rename_i e; cases h; subst e; exact hF
    · exact hΓ.opens g G h
  · simp only [findX, findIn] at h
    split at h
    · cases h; exact hn
    · exact hΓ.nat g G h
theorem GOK.empty : GOK P { pure := [] } := ⟨fun _ _ h => (by cases h), fun _ _ h => (by cases h), fun _ _ h => (by cases h), fun _ _ h => (by cases h), fun _ _ _ h => (by cases h)⟩
theorem GOK.flags {t fk cv hl : Bool} {e : List Nat} {rg : List (Nat × Int × Nat)} {ur : Nat} (hΓ : GOK P Γ) : GOK P { Γ with tmpX := t, ext := e, fork := fk, conv := cv, hole := hl, rng := rg, unroll := ur } := ⟨hΓ.pure, hΓ.snat, hΓ.opens, hΓ.nat, hΓ.yld⟩
theorem GOK.yields {key : Int} {np : Nat} {F : SummX} (hΓ : GOK P Γ) (hn : np = (loopCode key).1.size) (h : YOK P key F ∧ XNat F) : GOK P { Γ with yld := some (key, np, F) } := ⟨hΓ.pure, hΓ.snat, hΓ.opens, hΓ.nat, fun key' np' F' e => by cases e; exact ⟨hn, h.1, h.2⟩⟩
theorem KOK.nil {c : Code} (h : loopsOf c = []) : KOK P Γ K c := fun b hb => by rw [h] at hb; cases hb
theorem KOK.one {c b : Code} {l : Loop} (h : loopsOf c = [b]) (hf : findIn K (firstRegion b) = some l) (hl : LoopOK P Γ K b l) : KOK P Γ K c := fun b' hb' l' hl' => by
  rw [h] at hb'
  simp at hb'
  subst hb'
  rw [hf] at hl'
  cases hl'
  exact hl
theorem KOK.all {c : Code} {bs : List Code} (h : loopsOf c = bs) (hl : ∀ b ∈ bs, ∃ l, findIn K (firstRegion b) = some l ∧ LoopOK P Γ K b l) : KOK P Γ K c := fun b hb l hf => by
  rw [h] at hb
  obtain ⟨l', h1, h2⟩ := hl b hb
  rw [h1] at hf
  cases hf
  exact h2
end nat
end Go.Ev


namespace Go.Ev
open Go.RowKit
theorem noBody {P : Program} {f : FuncId} {fn : Func} (hfn : P.funcs[f]? = some fn) (hb : fn.body.isNone = true) : hasBody P f = false := by
  unfold hasBody
  rw [hfn]
  cases h : fn.body <;> simp_all
end Go.Ev


namespace Go.Proofs.YtpmlhkoianekfaaGreatDoor
open Go.Ev
theorem hmix : Tryz.prog.follows .mixedOrders = true := by kernel_rfl
theorem inl {Γ : Env} (hΓ : GOK Tryz.prog Γ) {f : Nat} {fn : Func} (hfn : Tryz.prog.funcs[f]? = some fn) (hl : fn.body.map loopsOf = some []) (hfk : Γ.fork = false := by rfl) (hrg : Γ.rng = [] := by rfl) : SumOK Tryz.prog f (evF Tryz.prog Γ [] fn) ∧ SNat (evF Tryz.prog Γ [] fn) := by
  have hK : ∀ c, fn.body = some c → KOK Tryz.prog Γ [] c := fun c hc => KOK.nil (by rw [hc] at hl; simpa using hl)
  exact ⟨sumOK_inline hΓ (drawOK hΓ hmix) hfn hK hrg, snat_evF hΓ.natOK hfk hK⟩
theorem sum0 {Γ : Env} (hΓ : GOK Tryz.prog Γ) {f : Nat} {fn : Func} (hfn : Tryz.prog.funcs[f]? = some fn) (hl : fn.body.map loopsOf = some []) {F : Summ} (hF : ∀ ρ avs k r, F ρ avs k = some r → evF Tryz.prog Γ [] fn ρ avs k = some r) (hrg : Γ.rng = [] := by rfl) : SumOK Tryz.prog f F :=
  sumOK_of hΓ (drawOK hΓ hmix) hfn (fun ρ avs k r h => ⟨[], fun c hc => KOK.nil (by rw [hc] at hl; simpa using hl), hF ρ avs k r h⟩) hrg
theorem GOK.also {Γ : Env} {f : Nat} {F : Summ} (hΓ : GOK Tryz.prog Γ) (h : SumOK Tryz.prog f F ∧ SNat F) : GOK Tryz.prog { Γ with pure := (f, F) :: Γ.pure } := hΓ.cons h.1 h.2
theorem GOK.alsoX {Γ : Env} {f : Nat} {F : SummX} (hΓ : GOK Tryz.prog Γ) (h : XOK Tryz.prog f F ∧ XNat F) : GOK Tryz.prog { Γ with opens := (f, F) :: Γ.opens } := hΓ.consX h.1 h.2
theorem sum1 {Γ : Env} {K : List (Nat × Ev.Loop)} (hΓ : GOK Tryz.prog Γ) {f : Nat} {fn : Func} (hfn : Tryz.prog.funcs[f]? = some fn) {b : Code} {l : Ev.Loop} (hl : fn.body.map loopsOf = some [b]) (hf : findIn K (firstRegion b) = some l) (hL : LoopOK Tryz.prog Γ K b l)
    {F : Summ} (hF : ∀ ρ avs k r, F ρ avs k = some r → evF Tryz.prog Γ K fn ρ avs k = some r) (hrg : Γ.rng = [] := by rfl) : SumOK Tryz.prog f F :=
  sumOK_of hΓ (drawOK hΓ hmix) hfn (fun ρ avs k r h => ⟨K, fun c hc => KOK.one (by rw [hc] at hl; simpa using hl) hf hL, hF ρ avs k r h⟩) hrg
theorem sums {Γ : Env} {K : List (Nat × Ev.Loop)} (hΓ : GOK Tryz.prog Γ) {f : Nat} {fn : Func} (hfn : Tryz.prog.funcs[f]? = some fn) {bs : List Code} (hl : fn.body.map loopsOf = some bs) (hL : ∀ b ∈ bs, ∃ l, findIn K (firstRegion b) = some l ∧ LoopOK Tryz.prog Γ K b l)
    {F : Summ} (hF : ∀ ρ avs k r, F ρ avs k = some r → evF Tryz.prog Γ K fn ρ avs k = some r) (hrg : Γ.rng = [] := by rfl) : SumOK Tryz.prog f F :=
  sumOK_of hΓ (drawOK hΓ hmix) hfn (fun ρ avs k r h => ⟨K, fun c hc => KOK.all (by rw [hc] at hl; simpa using hl) hL, hF ρ avs k r h⟩) hrg
theorem xsums {Γ : Env} {K : List (Nat × Ev.Loop)} {H : List (Nat × Nat × TypeId)} (hΓ : GOK Tryz.prog Γ) {f : Nat} {fn : Func} (hfn : Tryz.prog.funcs[f]? = some fn) {bs : List Code} (hl : fn.body.map loopsOf = some bs) (hL : ∀ b ∈ bs, ∃ l, findIn K (firstRegion b) = some l ∧ LoopOK Tryz.prog Γ K b l)
    {F : SummX} (hF : ∀ ρ avs rows k r, F ρ avs rows k = some r → rows.length ≤ 1000000 ∧ ∀ rows', Spared rows rows' → evFX Tryz.prog Γ K H fn ρ avs rows' k = some r) (hrg : Γ.rng = [] := by rfl) : XOK Tryz.prog f F :=
  xok_of hΓ (drawOK hΓ hmix) hfn (fun ρ avs rows k r h => ⟨(hF ρ avs rows k r h).1, fun rows' hs => ⟨K, H, fun c hc => KOK.all (by rw [hc] at hl; simpa using hl) hL, (hF ρ avs rows k r h).2 rows' hs⟩⟩) hrg
theorem xsum1 {Γ : Env} {K : List (Nat × Ev.Loop)} {H : List (Nat × Nat × TypeId)} (hΓ : GOK Tryz.prog Γ) {f : Nat} {fn : Func} (hfn : Tryz.prog.funcs[f]? = some fn) {b : Code} {l : Ev.Loop} (hl : fn.body.map loopsOf = some [b]) (hf : findIn K (firstRegion b) = some l) (hL : LoopOK Tryz.prog Γ K b l)
    {F : SummX} (hF : ∀ ρ avs rows k r, F ρ avs rows k = some r → rows.length ≤ 1000000 ∧ ∀ rows', Spared rows rows' → evFX Tryz.prog Γ K H fn ρ avs rows' k = some r) (hrg : Γ.rng = [] := by rfl) : XOK Tryz.prog f F :=
  xok_of hΓ (drawOK hΓ hmix) hfn (fun ρ avs rows k r h => ⟨(hF ρ avs rows k r h).1, fun rows' hs => ⟨K, H, fun c hc => KOK.one (by rw [hc] at hl; simpa using hl) hf hL, (hF ρ avs rows k r h).2 rows' hs⟩⟩) hrg
theorem xsum0 {Γ : Env} {H : List (Nat × Nat × TypeId)} (hΓ : GOK Tryz.prog Γ) {f : Nat} {fn : Func} (hfn : Tryz.prog.funcs[f]? = some fn) (hl : fn.body.map loopsOf = some [])
    {F : SummX} (hF : ∀ ρ avs rows k r, F ρ avs rows k = some r → rows.length ≤ 1000000 ∧ ∀ rows', Spared rows rows' → evFX Tryz.prog Γ [] H fn ρ avs rows' k = some r) (hrg : Γ.rng = [] := by rfl) : XOK Tryz.prog f F :=
  xok_of hΓ (drawOK hΓ hmix) hfn (fun ρ avs rows k r h => ⟨(hF ρ avs rows k r h).1, fun rows' hs => ⟨[], H, fun c hc => KOK.nil (by rw [hc] at hl; simpa using hl), (hF ρ avs rows k r h).2 rows' hs⟩⟩) hrg
end Go.Proofs.YtpmlhkoianekfaaGreatDoor


namespace Go.Ev
def idxZ : Option Nat → Int
  | some j => j
  | none => -1
theorem wrap_small (n : Int) (h : -9223372036854775808 ≤ n) (h' : n ≤ 9223372036854775807) : IntKind.i64.wrap n = n := IntWalk.i64_in n ⟨h, h'⟩
theorem wrap_mid (n : Int) (h : -1000000000000 ≤ n) (h' : n ≤ 1000000000000) : IntKind.i64.wrap n = n := wrap_small n (Int.le_trans (by decide) h) (Int.le_trans h' (by decide))
def small (n : Nat) : Bool := decide (n ≤ 9223372036854775807)
theorem small_le {n : Nat} (h : small n = true) : n ≤ 9223372036854775807 := of_decide_eq_true h
theorem inb_true {i : Int} {n : Nat} (h0 : 0 ≤ i) (h : i < n) : inb i n = true := by simp [inb, h0, h]
theorem and_tt {a b : Bool} (h : a = true) (h' : b = true) : (a && b) = true := by rw [h, h']; rfl
def findN (p : Nat → Bool) (n i : Nat) : Option Nat := (List.range' i (n - i)).find? p
theorem findN_step (p : Nat → Bool) (n i : Nat) (h : i < n) : findN p n i = bif p i then some i else findN p n (i + 1) := by
  unfold findN
  rw [show n - i = (n - (i + 1)) + 1 from by omega, List.range'_succ, List.find?_cons]
  cases p i <;> rfl
theorem findN_end (p : Nat → Bool) (n i : Nat) (h : n ≤ i) : findN p n i = none := by
  unfold findN
  rw [show n - i = 0 from by omega]
  rfl
theorem findN_some {p : Nat → Bool} {n i q : Nat} (h : findN p n i = some q) : i ≤ q ∧ q < n ∧ p q = true ∧ ∀ j, i ≤ j → j < q → p j = false := by
  unfold findN at h
  obtain ⟨h1, ys, bs, h2, h3⟩ := List.find?_eq_some_iff_append.1 h
  have hm : q ∈ List.range' i (n - i) := by rw [h2]; simp
  rw [List.mem_range'_1] at hm
  refine ⟨hm.1, by omega, h1, fun j hj hjq => ?_⟩
  have hl := congrArg List.length h2
  have hq : (List.range' i (n - i))[ys.length]? = some q := by rw [h2]; simp
  have hal : ys.length < n - i := by
    rw [List.length_range', List.length_append, List.length_cons] at hl
    omega
  have hlen : ys.length = q - i := by
    rw [List.getElem?_range' hal] at hq
    simp at hq
    omega
  have hj2 : (List.range' i (n - i))[j - i]? = ys[j - i]? := by rw [h2, List.getElem?_append_left (by omega)]
  rw [List.getElem?_range' (by omega)] at hj2
  have hmem : j ∈ ys := List.mem_of_getElem? (i := j - i) (by rw [← hj2]; congr 1; omega)
  simpa using h3 j hmem
theorem findN_none {p : Nat → Bool} {n i : Nat} (h : findN p n i = none) : ∀ j, i ≤ j → j < n → p j = false := by
  unfold findN at h
  intro j hj hn
  have := List.find?_eq_none.1 h j (by rw [List.mem_range'_1]; omega)
  simpa using this
theorem findN_of_none {p : Nat → Bool} {n i : Nat} (h : ∀ j, i ≤ j → j < n → p j = false) : findN p n i = none := by
  unfold findN
  rw [List.find?_eq_none]
  intro j hj
  rw [List.mem_range'_1] at hj
  simp [h j hj.1 (by omega)]
def cnt (n i : Int) (m : Nat) : Bool := decide (n = m) && (decide (0 ≤ i) && (decide (i ≤ n) && small m))
theorem cnt_spec {n i : Int} {m : Nat} (h : cnt n i m = true) : n = m ∧ m ≤ 9223372036854775807 ∧ ∃ j : Nat, i = j ∧ j ≤ m := by
  simp only [cnt, Bool.and_eq_true, decide_eq_true_eq] at h
  obtain ⟨rfl, h0, h1, hs⟩ := h
  exact ⟨rfl, small_le hs, i.toNat, by omega, by omega⟩
theorem cnt_zero {m : Nat} (hs : small m = true) : cnt m 0 m = true := and_tt (decide_eq_true rfl) (and_tt (decide_eq_true (by omega)) (and_tt (decide_eq_true (by omega)) hs))
theorem cond_t {α : Type} {b : Bool} {x y : α} (h : b = true) : cond b x y = x := by rw [h]; rfl
theorem cond_f {α : Type} {b : Bool} {x y : α} (h : b = false) : cond b x y = y := by rw [h]; rfl
theorem and_t {a b : Bool} (h : a = true) (h' : b = true) : (a && b) = true := by rw [h, h']; rfl
end Go.Ev


namespace Go.Ev
inductive Tr (α : Type) where
  | no : Tr α
  | leaf (a : α) : Tr α
  | br (c : Bool) (x y : Tr α) : Tr α
def Tr.run {α ρ : Type} (t : Tr α) (k : α → Option ρ) : Option ρ :=
  match t with
  | .no => none
  | .leaf a => k a
  | .br c x y => bif c then x.run k else y.run k
theorem Tr.run_bind {α ρ σ : Type} (f : α → Option σ) (k : σ → Option ρ) : ∀ t : Tr α, t.run (fun a => (f a).bind k) = (t.run f).bind k
  | .no => rfl
  | .leaf _ => rfl
  | .br c x y => by
    show (bif c then x.run _ else y.run _) = (bif c then x.run f else y.run f).bind k
    rw [Tr.run_bind f k x, Tr.run_bind f k y]
    cases c <;> rfl
def Tr.gd {α : Type} (c : Bool) (t : Tr α) : Tr α := .br c t .no
theorem gd_some {α ρ : Type} {c : Bool} {t : Tr α} {k : α → Option ρ} {r : ρ} (h : (Tr.gd c t).run k = some r) : c = true ∧ t.run k = some r := by
  cases c
  · cases h
  · exact ⟨rfl, h⟩
def ofT (p : List AV → Tr AV) : Summ := fun _ avs k => (p avs).run k
theorem snat_ofT (p : List AV → Tr AV) : SNat (ofT p) := fun _ avs k => Tr.run_bind (σ := AV) some k (p avs)
abbrev LOut := Ex × List AV × List (Option Row)
def ofL (p : List AV → List (Option Row) → Tr LOut) : LSumm := fun _ vs rs k => (p vs rs).run fun q => k q.1 q.2.1 q.2.2
abbrev XOut := AV × List (Option Row) × List Row
def ofX (p : List AV → List Row → Tr XOut) : SummX := fun _ avs rows k => (p avs rows).run fun q => k q.1 q.2.1 q.2.2
theorem xnat_ofX (p : List AV → List Row → Tr XOut) : XNat (ofX p) := fun _ avs rows k => Tr.run_bind (α := XOut) (σ := XOut) (fun q => some (q.1, q.2.1, q.2.2)) (fun q => k q.1 q.2.1 q.2.2) (p avs rows)
theorem loopT {P : Program} {Γ : Env} {K : List (Nat × Loop)} (hN : NatOK Γ) (hfk : Γ.fork = false) {b : Code} {N : Norm} {p : List AV → List (Option Row) → Tr LOut} (hK : KOK P Γ K b) (μ : List AV → List (Option Row) → Nat)
    (hround : ∀ (ρ : Type) (vs : List AV) (rs : List (Option Row)) (k : Ex → List AV → List (Option Row) → Option ρ) (r : ρ), (p vs rs).run (fun q => k q.1 q.2.1 q.2.2) = some r → evC P Γ K b ρ (expand N vs rs) (after ⟨N, ofL p⟩ μ (μ vs rs) k) = some r) : LoopOK P Γ K b ⟨N, ofL p⟩ :=
  loopOK_of hN hfk hK μ hround fun _ vs rs k => Tr.run_bind (α := LOut) (σ := LOut) (fun q => some (q.1, q.2.1, q.2.2)) (fun q => k q.1 q.2.1 q.2.2) (p vs rs)
def sT {α : Type} (p : Nat → Bool) (n : Nat) (A : Nat → Tr α) (B : Tr α) (j : Nat) : Tr α := .br (findN p n j).isSome (A ((findN p n j).getD 0)) B
theorem sT_step {α : Type} (p : Nat → Bool) (n : Nat) (A : Nat → Tr α) (B : Tr α) (j : Nat) (h : j < n) {ρ : Type} (k : α → Option ρ) : (sT p n A B j).run k = bif p j then (A j).run k else (sT p n A B (j + 1)).run k := by
  unfold sT
  show cond _ ((A ((findN p n j).getD 0)).run k) (B.run k) = bif p j then (A j).run k else cond _ ((A ((findN p n (j + 1)).getD 0)).run k) (B.run k)
  rw [findN_step p n j h]
  cases p j <;> rfl
theorem sT_end {α : Type} (p : Nat → Bool) (n : Nat) (A : Nat → Tr α) (B : Tr α) {ρ : Type} (k : α → Option ρ) : (sT p n A B n).run k = B.run k := by
  unfold sT
  rw [findN_end p n n (Nat.le_refl _)]
  rfl
theorem cnt_facts {m j : Nat} (h : j < m) (hs : m ≤ 9223372036854775807) : decide ((j : Int) < (m : Int)) = true ∧ inb (j : Int) m = true ∧ IntKind.i64.wrap ((j : Int) + 1) = ((j + 1 : Nat) : Int) ∧ cnt m ((j + 1 : Nat) : Int) m = true ∧ decide (((m : Int) - ((j + 1 : Nat) : Int)).toNat < ((m : Int) - (j : Int)).toNat) = true := by
  refine ⟨decide_eq_true (by omega), inb_true (by omega) (by omega), ?_, ?_, decide_eq_true (by omega)⟩
  · rw [wrap_small _ (by omega) (by omega)]; omega
  · exact and_tt (decide_eq_true rfl) (and_tt (decide_eq_true (by omega)) (and_tt (decide_eq_true (by omega)) (decide_eq_true hs)))
end Go.Ev
namespace Go.Proofs.YtpmlhkoianekfaaGreatDoor
open Go.Ev
theorem fnT {Γ : Env} {K : List (Nat × Ev.Loop)} (hΓ : GOK Tryz.prog Γ) {f : Nat} {fn : Func} (hfn : Tryz.prog.funcs[f]? = some fn) {bs : List Code} (hl : fn.body.map loopsOf = some bs) (hL : ∀ b ∈ bs, ∃ l, findIn K (firstRegion b) = some l ∧ LoopOK Tryz.prog Γ K b l)
    {p : List AV → Tr AV} (hF : ∀ ρ avs k r, (p avs).run k = some r → evF Tryz.prog Γ K fn ρ avs k = some r) (hrg : Γ.rng = [] := by rfl) : SumOK Tryz.prog f (ofT p) ∧ SNat (ofT p) :=
  ⟨sums hΓ hfn hl hL hF hrg, snat_ofT p⟩
theorem fn0 {Γ : Env} (hΓ : GOK Tryz.prog Γ) {f : Nat} {fn : Func} (hfn : Tryz.prog.funcs[f]? = some fn) (hl : fn.body.map loopsOf = some [])
    {p : List AV → Tr AV} (hF : ∀ ρ avs k r, (p avs).run k = some r → evF Tryz.prog Γ [] fn ρ avs k = some r) (hrg : Γ.rng = [] := by rfl) : SumOK Tryz.prog f (ofT p) ∧ SNat (ofT p) :=
  ⟨sum0 hΓ hfn hl hF hrg, snat_ofT p⟩
theorem fn1 {Γ : Env} {K : List (Nat × Ev.Loop)} (hΓ : GOK Tryz.prog Γ) {f : Nat} {fn : Func} (hfn : Tryz.prog.funcs[f]? = some fn) {b : Code} {l : Ev.Loop} (hl : fn.body.map loopsOf = some [b]) (hf : findIn K (firstRegion b) = some l) (hL : LoopOK Tryz.prog Γ K b l)
    {p : List AV → Tr AV} (hF : ∀ ρ avs k r, (p avs).run k = some r → evF Tryz.prog Γ K fn ρ avs k = some r) (hrg : Γ.rng = [] := by rfl) : SumOK Tryz.prog f (ofT p) ∧ SNat (ofT p) :=
  ⟨sum1 hΓ hfn hl hf hL hF hrg, snat_ofT p⟩
end Go.Proofs.YtpmlhkoianekfaaGreatDoor


namespace Go.Ev
theorem roomB_small {n b : Nat} (h : n ≤ 2000000) (h' : b ≤ 1000) : roomB n b = true := by
  simp only [roomB, Bool.and_eq_true, Bool.or_eq_true, decide_eq_true_eq]
  have : n * b ≤ 2000000 * 1000 := Nat.mul_le_mul h h'
  omega
theorem slb_true {l h : Int} {m : Nat} (h0 : 0 ≤ l) (h1 : l ≤ h) (h2 : h ≤ m) : slb l h m = true := by simp [slb, h0, h1, h2]
theorem getD_eq {es : List AV} {i : Nat} (h : i < es.length) : es.getD i .unk = es[i] := by simp [List.getD, h]
theorem drop_getD {es : List AV} {i : Nat} (h : i < es.length) : es.drop i = es.getD i .unk :: es.drop (i + 1) := by rw [getD_eq h, List.drop_eq_getElem_cons h]
end Go.Ev


namespace Go.Ev
def delN (p : AV → Bool) (c : AV → AV) : Nat → List AV → Nat → Nat → List AV × Nat
  | 0, es, i, _ => (es, i)
  | n + 1, es, i, j => bif p (es.getD j .unk) then delN p c n es i (j + 1) else delN p c n (es.set i (c (es.getD j .unk))) (i + 1) (j + 1)
theorem delN_succ (p : AV → Bool) (c : AV → AV) (n : Nat) (es : List AV) (i j : Nat) : delN p c (n + 1) es i j = bif p (es.getD j .unk) then delN p c n es i (j + 1) else delN p c n (es.set i (c (es.getD j .unk))) (i + 1) (j + 1) := rfl
theorem delN_len (p : AV → Bool) (c : AV → AV) : ∀ (n : Nat) (es : List AV) (i j : Nat), (delN p c n es i j).1.length = es.length
  | 0, _, _, _ => rfl
  | n + 1, es, i, j => by
    rw [delN_succ]
    cases p (es.getD j .unk)
    · rw [cond_false, delN_len p c n]; simp
    · rw [cond_true, delN_len p c n]
theorem delN_le (p : AV → Bool) (c : AV → AV) : ∀ (n : Nat) (es : List AV) (i j : Nat), (delN p c n es i j).2 ≤ i + n
  | 0, _, _, _ => Nat.le_refl _
  | n + 1, es, i, j => by
    rw [delN_succ]
    cases p (es.getD j .unk)
    · rw [cond_false]; have := delN_le p c n (es.set i (c (es.getD j .unk))) (i + 1) (j + 1); omega
    · rw [cond_true]; have := delN_le p c n es i (j + 1); omega
theorem delN_take (p : AV → Bool) (c : AV → AV) : ∀ (n : Nat) (es : List AV) (i j : Nat), i ≤ j → j + n = es.length → (∀ x ∈ es, c x = x) → (delN p c n es i j).1.take (delN p c n es i j).2 = es.take i ++ (es.drop j).filter (fun x => !p x)
  | 0, es, i, j, _, h, _ => by
    unfold delN
    rw [List.drop_of_length_le (by omega)]
    simp
  | n + 1, es, i, j, hij, h, hc => by
    have hj : j < es.length := by omega
    rw [delN_succ, getD_eq hj, List.drop_eq_getElem_cons hj, List.filter_cons]
    cases hz : p es[j]
    · rw [cond_false, hc _ (List.getElem_mem hj)]
      rw [delN_take p c n (es.set i es[j]) (i + 1) (j + 1) (by omega) (by rw [List.length_set]; omega) (fun x hx => by
        rcases List.mem_or_eq_of_mem_set hx with h | h
        · exact hc x h
        · rw [h]; exact hc _ (List.getElem_mem hj))]
      have e1 : (es.set i es[j]).take (i + 1) = es.take i ++ [es[j]] := by
        rw [List.take_add_one, List.take_set_of_le (Nat.le_refl _), List.getElem?_set_self (by omega)]
        rfl
      have e2 : (es.set i es[j]).drop (j + 1) = es.drop (j + 1) := List.drop_set_of_lt (by omega)
      rw [e1, e2]
      simp
    · rw [cond_true, delN_take p c n es i (j + 1) (by omega) (by omega) hc]
      simp
def delTree {ρ : Type} (p : AV → Bool) (c : AV → AV) (z : AV) (es : List AV) (f : Option Nat) (G : Int → Int → Bool) (K : List AV → Option ρ) : Option ρ :=
  bif small es.length then bif idxZ f == -1 then K es else
    bif G (idxZ f) (IntKind.i64.wrap (idxZ f + 1)) then
      (fun D : List AV × Nat => bif slb (D.2 : Int) (D.1.length : Int) D.1.length then bif decide (((D.2 : Nat) : Int).toNat + (((D.1.length : Nat) : Int).toNat - ((D.2 : Nat) : Int).toNat) ≤ D.1.length) then
        (fun E : List AV => bif slb 0 (D.2 : Int) E.length then bif (((D.2 : Nat) : Int).toNat - Int.toNat 0).ble E.length then K (E.take (((D.2 : Nat) : Int).toNat - Int.toNat 0)) else none else none)
          (D.1.take ((D.2 : Nat) : Int).toNat ++ (List.replicate (((D.1.length : Nat) : Int).toNat - ((D.2 : Nat) : Int).toNat) z ++ D.1.drop (((D.2 : Nat) : Int).toNat + (((D.1.length : Nat) : Int).toNat - ((D.2 : Nat) : Int).toNat))))
        else none else none) (delN p c (es.length - (IntKind.i64.wrap (idxZ f + 1)).toNat) es (idxZ f).toNat (IntKind.i64.wrap (idxZ f + 1)).toNat)
    else none
  else none
theorem delTree_eq {ρ : Type} {p : AV → Bool} {c : AV → AV} {z : AV} {es : List AV} {f : Option Nat} {G : Int → Int → Bool} {K : List AV → Option ρ} (hf : f = findN (fun i => p (es.getD i .unk)) es.length 0) (hs : es.length ≤ 1000000) (hc : ∀ x ∈ es, c x = x) (hG : ∀ i : Nat, i < es.length → G i ((i : Int) + 1) = true) : delTree p c z es f G K = K (es.filter fun x => !p x) := by
  unfold delTree
  rw [show small es.length = true from decide_eq_true (by omega), cond_true]
  cases hq : f with
  | none =>
    have hn := findN_none (hf ▸ hq)
    rw [show es.filter (fun x => !p x) = es from List.filter_eq_self.2 fun x hx => by
      obtain ⟨i, hi, rfl⟩ := List.getElem_of_mem hx
      have := hn i (Nat.zero_le _) hi
      rw [getD_eq hi] at this
      rw [this]; rfl]
    rfl
  | some i =>
    obtain ⟨_, hi, h1, h2⟩ := findN_some (hf ▸ hq)
    have hw : IntKind.i64.wrap ((i : Int) + 1) = i + 1 := wrap_mid _ (by omega) (by omega)
    have hn1 : ((i : Int) + 1).toNat = i + 1 := by omega
    have hl := delN_len p c (es.length - (i + 1)) es i (i + 1)
    have hle := delN_le p c (es.length - (i + 1)) es i (i + 1)
    have htk := delN_take p c (es.length - (i + 1)) es i (i + 1) (by omega) (by omega) hc
    have hfi : es.filter (fun x => !p x) = es.take i ++ (es.drop (i + 1)).filter (fun x => !p x) := by
      conv => lhs; rw [← List.take_append_drop i es, List.drop_eq_getElem_cons hi]
      rw [getD_eq hi] at h1
      rw [List.filter_append, List.filter_cons, h1]
      rw [show (es.take i).filter (fun x => !p x) = es.take i from List.filter_eq_self.2 fun x hx => by
        obtain ⟨j, hj, rfl⟩ := List.getElem_of_mem hx
        rw [List.length_take] at hj
        have := h2 j (Nat.zero_le _) (by omega)
        rw [getD_eq (by omega)] at this
        rw [List.getElem_take, this]; rfl]
      rfl
    rw [hfi, ← htk]
    simp only [idxZ, hw, hn1, Int.toNat_natCast]
    rw [show ((i : Int) == -1) = false from by simp, cond_false, hG i hi, cond_true]
    generalize delN p c (es.length - (i + 1)) es i (i + 1) = D at hl hle
    have e1 : D.1.take D.2 ++ (List.replicate (D.1.length - D.2) z ++ D.1.drop (D.2 + (D.1.length - D.2))) = D.1.take D.2 ++ List.replicate (D.1.length - D.2) z := by
      rw [List.drop_of_length_le (by omega), List.append_nil]
    have e2 : (D.1.take D.2 ++ List.replicate (D.1.length - D.2) z).length = D.1.length := by simp; omega
    rw [e1]
    refine Eq.trans (cond_t (slb_true (by omega) (by omega) (by omega))) (Eq.trans (cond_t (decide_eq_true (by omega))) (Eq.trans (cond_t (slb_true (by omega) (by omega) (by rw [e2]; omega))) (Eq.trans (cond_t (Nat.ble_eq_true_of_le (by rw [e2]; simp; omega))) ?_)))
    rw [show D.2 - Int.toNat 0 = D.2 from by simp, List.take_append_of_le_length (by simp; omega), List.take_of_length_le (by simp; omega)]
end Go.Ev


namespace Go.Ev
open Go.RowKit
def idxB (s : List UInt8) (c : Int) : Int := Lib.indexByte s c.toNat.toUInt8
def Fidx : Summ := fun _ avs k => match avs with
  | [.str s, .int .u8 c] => k (.int .i64 (idxB s c))
  | _ => none
theorem snat_idx : SNat Fidx := fun ρ avs k => by unfold Fidx; split <;> rfl
theorem idx_ok {P : Program} {f : FuncId} {fn : Func} (hfn : P.funcs[f]? = some fn) (hname : (fn.name == "runtime.NumGoroutine") = false) (hb : fn.body.isNone = true) (hn : Extern.findNext fn = none) (he : Extern.find fn = some Extern.BytealgIndexByte.indexByte) : SumOK P f Fidx ∧ SNat Fidx := by
  refine ⟨fun ρ w S avs args k r hS hv h => ?_, snat_idx⟩
  unfold Fidx at h
  split at h
  · rename_i s c
    obtain ⟨v, vs, rfl, h1, hv⟩ := hv.inv
    obtain ⟨u, us, rfl, h2, hv⟩ := hv.inv
    obtain rfl := hv.inv_nil
    rw [h1.str_inv, h2.int_inv]
    refine .inr ⟨noBody hfn hb, .int .i64 (idxB s c), w, ?_, ⟨_, _, fun _ => False, rfl, h, Below.refl _ _, fun _ h => h.elim, fun _ h => h.elim, .int _ _ _⟩⟩
    rw [run_callFunc_extern hfn hname hb hn he]
    show ((Extern.BytealgIndexByte.indexByte #[.string ⟨s.toArray⟩, .int .u8 c]).run P w).andThen _ = _
    rw [Lib.run_indexByteString]
    rfl
  · cases h
end Go.Ev


namespace Go.Ev
theorem Goes.mono {P : Program} {f : FuncId} {args : Array Value} {w : World} {R R' : Ending → World → Prop} (h : Goes P f args w R) (hR : ∀ e w', R e w' → R' e w') : Goes P f args w R' := by
  rcases h with ⟨hb, h⟩ | ⟨hb, u, w', h1, h2⟩
  · exact .inl ⟨hb, h.mono hR⟩
  · exact .inr ⟨hb, u, w', h1, hR _ _ h2⟩
theorem SumOK.point {P : Program} {f : FuncId} {F : Summ} (h : ∀ avs, ∃ F', SumOK P f F' ∧ ∀ (ρ : Type) (k : AV → Option ρ) (r : ρ), F ρ avs k = some r → F' ρ avs k = some r) : SumOK P f F := fun ρ w S avs args k r hS hv hF => by
  obtain ⟨F', h1, h2⟩ := h avs
  exact h1 ρ w S avs args k r hS hv (h2 ρ k r hF)
theorem XOK.point {P : Program} {f : FuncId} {F : SummX} (h : ∀ avs rows, ∃ F', XOK P f F' ∧ ∀ (ρ : Type) (k : AV → List (Option Row) → List Row → Option ρ) (r : ρ), F ρ avs rows k = some r → F' ρ avs rows k = some r) : XOK P f F := fun ρ w S B β og avs rows args k r hh hB hβ hv hF => by
  obtain ⟨F', h1, h2⟩ := h avs rows
  exact h1 ρ w S B β og avs rows args k r hh hB hβ hv (h2 ρ k r hF)
end Go.Ev


namespace Go.Proofs.YtpmlhkoianekfaaGreatDoor
open Go.Ev
theorem byte_of {v : AV} (h : hasSh (.int .u8) v = true) : ∃ m, v = .int .u8 m := by
  cases v <;> simp [hasSh, has1] at h
  subst h
  exact ⟨_, rfl⟩
theorem u8_small (n : Int) (h : 0 ≤ n) (h' : n ≤ 255) : IntKind.u8.wrap n = n := by
  rw [IntKind.wrap_u8]; omega
noncomputable def G0 : Env := { pure := [] }
theorem g0 : GOK Tryz.prog G0 := GOK.empty
def inR (n a b : Int) : Bool := decide (a ≤ n) && decide (n ≤ b)
theorem inR_spec {n a b : Int} (h : inR n a b = true) : a ≤ n ∧ n ≤ b := by simpa [inR] using h
theorem inR_of {n a b : Int} (h : a ≤ n) (h' : n ≤ b) : inR n a b = true := by simp [inR, h, h']
def F176 : List AV → Tr AV
  | [.int .i64 n, .int .i64 a, .int .i64 b] => .leaf (.bool (inR n a b))
  | _ => .no
theorem ok176 : SumOK Tryz.prog 176 (ofT F176) ∧ SNat (ofT F176) := by
  refine fn0 g0 Tryz.func176 (by kernel_rfl) fun ρ avs k r h => ?_
  unfold F176 at h
  split at h
  · rename_i n a b
    have hk := h
    refine Eq.trans (b := bif decide (a ≤ n) then k (.bool (decide (n ≤ b))) else k (.bool false)) (by kernel_rfl) (Eq.trans ?_ hk)
    show _ = k (.bool (decide (a ≤ n) && decide (n ≤ b)))
    cases decide (a ≤ n) <;> rfl
  · cases h
def lowI (n : Int) : Int := bif inR n 65 90 then n + 32 else n
def lowE (e : AV) : AV := .int .u8 (lowI e.toInt)
noncomputable def GC : Env := { pure := [], conv := true }
theorem gc : GOK Tryz.prog GC := GOK.flags g0
noncomputable def b46 : Code := ((Tryz.f46.body.map loopsOf).getD []).headD .skip
def bE (e : AV) : Bool := hasSh (.int .u8) e && inR e.toInt 0 255
def L46 : List AV → List (Option Row) → Tr LOut
  | [.own 65, .own 65, .int .i64 n, .int .i64 i], [some (.arr false (.int .u8) e es none)] =>
    .gd (cnt n i es.length && es.all bE) (.leaf (.exit 0, [.own 65, .own 65, .int .i64 n, .int .i64 es.length], [some (.arr false (.int .u8) e (es.take i.toNat ++ (es.drop i.toNat).map lowE) none)]))
  | _, _ => .no
def l46 : Ev.Loop := ⟨{ len := 30, slots := [3, 8, 9, 10], rows := [65] }, ofL L46⟩
def μ46 (vs : List AV) (_ : List (Option Row)) : Nat := match vs with
  | [_, _, .int _ n, .int _ i] => (n - i).toNat
  | _ => 0
theorem loop46 : LoopOK Tryz.prog GC [(3, l46)] b46 l46 := by
  refine loopT gc.natOK rfl (KOK.nil (by kernel_rfl)) μ46 (fun ρ vs rs k r h => ?_)
  unfold L46 at h
  split at h
  · rename_i n i e es
    obtain ⟨hc, hk⟩ := gd_some h
    simp only [Bool.and_eq_true] at hc
    obtain ⟨hc, hall⟩ := hc
    obtain ⟨rfl, hs, j, rfl, hj⟩ := cnt_spec hc
    rw [Int.toNat_natCast] at hk
    refine Eq.trans (b := have c80 := (es.set j (mkAV (Sh.int IntKind.u8) [AV.int IntKind.u8 (IntKind.u8.wrap (IntKind.u8.wrap (((es.getD j AV.unk).cells.headD AV.unk).toInt + (97 : Int)) - (65 : Int)))])); have c81 := (IntKind.i64.wrap ((↑j : Int) + (1 : Int))); have c82 := ((↑es.length : Int) - IntKind.i64.wrap ((↑j : Int) + (1 : Int))); have c83 := [AV.own 65, AV.own 65, AV.int IntKind.i64 (↑es.length : Int), AV.int IntKind.i64 (↑es.length : Int)]; have c84 := [some (Row.arr false (Sh.int IntKind.u8) e (List.take c81.toNat es ++ List.map lowE (List.drop c81.toNat es)) none)]; bif decide ((↑j : Int) < (↑es.length : Int)) then bif inb (↑j : Int) es.length then bif decide (j < es.length) then bif decide (((es.getD j AV.unk).cells.headD AV.unk).toInt ≥ (65 : Int)) then bif decide (((es.getD j AV.unk).cells.headD AV.unk).toInt ≤ (90 : Int)) then bif inb (↑j : Int) es.length then bif decide (j < es.length) then bif decide (c82.toNat < ((↑es.length : Int) - (↑j : Int)).toNat) then bif cnt (↑es.length : Int) c81 c80.length && c80.all bE then k (Ex.exit (0 : Nat)) [AV.own 65, AV.own 65, AV.int IntKind.i64 (↑es.length : Int), AV.int IntKind.i64 (↑c80.length : Int)] [some (Row.arr false (Sh.int IntKind.u8) e (List.take c81.toNat c80 ++ List.map lowE (List.drop c81.toNat c80)) none)] else none else none else none else none else bif decide (c82.toNat < ((↑es.length : Int) - (↑j : Int)).toNat) then bif cnt (↑es.length : Int) c81 es.length && es.all bE then k (Ex.exit (0 : Nat)) c83 c84 else none else none else bif decide (c82.toNat < ((↑es.length : Int) - (↑j : Int)).toNat) then bif cnt (↑es.length : Int) c81 es.length && es.all bE then k (Ex.exit (0 : Nat)) c83 c84 else none else none else none else none else k (Ex.exit (0 : Nat)) [AV.own 65, AV.own 65, AV.int IntKind.i64 (↑es.length : Int), AV.int IntKind.i64 (↑j : Int)] [some (Row.arr false (Sh.int IntKind.u8) e es none)]) (by kernel_rfl) ?_
    conv => zeta
    rw [← hk]
    by_cases hlt : j < es.length
    · have w1 : IntKind.i64.wrap ((j : Int) + 1) = ((j + 1 : Nat) : Int) := by rw [wrap_small _ (by omega) (by omega)]; omega
      have hbe : bE (es.getD j .unk) = true := List.all_eq_true.1 hall _ (by rw [getD_eq hlt]; exact List.getElem_mem hlt)
      unfold bE at hbe
      simp only [Bool.and_eq_true] at hbe
      obtain ⟨m, hm⟩ : ∃ m, es.getD j .unk = .int .u8 m := byte_of hbe.1
      have hmr := hbe.2
      rw [hm] at hmr
      obtain ⟨m0, m1⟩ := inR_spec hmr
      have m0 : 0 ≤ m := m0
      have m1 : m ≤ 255 := m1
      rw [w1, Int.toNat_natCast, drop_getD hlt, List.map_cons, hm]
      have hx : (((AV.int .u8 m).cells.headD AV.unk).toInt) = m := rfl
      rw [hx]
      have hcn : cnt (es.length : Int) ((j + 1 : Nat) : Int) es.length = true := and_t (decide_eq_true rfl) (and_t (decide_eq_true (by omega)) (and_t (decide_eq_true (by omega)) (decide_eq_true hs)))
      have hkeep : ∀ v : AV, es.getD j .unk = v → es.take (j + 1) ++ (es.drop (j + 1)).map lowE = es.take j ++ v :: (es.drop (j + 1)).map lowE := fun v hv => by
        rw [List.take_succ_eq_append_getElem hlt, ← getD_eq hlt, hv]
        simp
      by_cases h1 : m ≥ 65
      · by_cases h2 : m ≤ 90
        · have hlow : lowE (.int .u8 m) = .int .u8 (m + 32) := by
            show AV.int .u8 (bif inR m 65 90 then m + 32 else m) = _
            rw [inR_of h1 h2]; rfl
          have hw : IntKind.u8.wrap (IntKind.u8.wrap (m + 97) - 65) = m + 32 := by
            rw [u8_small (m + 97) (by omega) (by omega), u8_small _ (by omega) (by omega)]; omega
          have hmk : ∀ z, mkAV (Sh.int IntKind.u8) [AV.int IntKind.u8 z] = AV.int IntKind.u8 z := fun _ => rfl
          rw [hw, hmk, hlow]
          have hset : (es.set j (AV.int .u8 (m + 32))).take (j + 1) ++ ((es.set j (AV.int .u8 (m + 32))).drop (j + 1)).map lowE = es.take j ++ AV.int .u8 (m + 32) :: (es.drop (j + 1)).map lowE := by
            rw [List.take_succ_eq_append_getElem (by rw [List.length_set]; exact hlt), List.getElem_set_self, List.take_set_of_le (Nat.le_refl _), List.drop_set_of_lt (Nat.lt_succ_self _)]
            simp
          have hal : (es.set j (AV.int .u8 (m + 32))).all bE = true := List.all_eq_true.2 fun x hx => by
            rcases List.mem_or_eq_of_mem_set hx with h' | h'
            · exact List.all_eq_true.1 hall x h'
            · rw [h']
              exact and_t rfl (inR_of (by show (0 : Int) ≤ m + 32; omega) (by show m + 32 ≤ 255; omega))
          rw [hset, List.length_set]
          refine Eq.trans (cond_t (decide_eq_true (by omega))) (Eq.trans (cond_t (inb_true (by omega) (by omega))) (Eq.trans (cond_t (decide_eq_true hlt)) (Eq.trans (cond_t (decide_eq_true h1)) (Eq.trans (cond_t (decide_eq_true h2)) (Eq.trans (cond_t (inb_true (by omega) (by omega))) (Eq.trans (cond_t (decide_eq_true hlt)) (Eq.trans (cond_t (decide_eq_true (by omega))) (Eq.trans (cond_t (and_t hcn hal)) ?_))))))))
          rfl
        · have hlow : lowE (.int .u8 m) = .int .u8 m := by
            show AV.int .u8 (bif inR m 65 90 then m + 32 else m) = _
            rw [show inR m 65 90 = false from by unfold inR; rw [decide_eq_false h2, Bool.and_false]]; rfl
          rw [hlow, hkeep _ hm]
          refine Eq.trans (cond_t (decide_eq_true (by omega))) (Eq.trans (cond_t (inb_true (by omega) (by omega))) (Eq.trans (cond_t (decide_eq_true hlt)) (Eq.trans (cond_t (decide_eq_true h1)) (Eq.trans (cond_f (decide_eq_false h2)) (Eq.trans (cond_t (decide_eq_true (by omega))) (Eq.trans (cond_t (and_t hcn hall)) ?_))))))
          rfl
      · have hlow : lowE (.int .u8 m) = .int .u8 m := by
          show AV.int .u8 (bif inR m 65 90 then m + 32 else m) = _
          rw [show inR m 65 90 = false from by unfold inR; rw [decide_eq_false h1, Bool.false_and]]; rfl
        rw [hlow, hkeep _ hm]
        refine Eq.trans (cond_t (decide_eq_true (by omega))) (Eq.trans (cond_t (inb_true (by omega) (by omega))) (Eq.trans (cond_t (decide_eq_true hlt)) (Eq.trans (cond_f (decide_eq_false h1)) (Eq.trans (cond_t (decide_eq_true (by omega))) (Eq.trans (cond_t (and_t hcn hall)) ?_)))))
        rfl
    · obtain rfl : j = es.length := by omega
      rw [decide_eq_false (by omega), List.drop_length, List.take_length, List.map_nil, List.append_nil]
      rfl
  · cases h
def lowU (c : UInt8) : UInt8 := UInt8.ofNat (lowI (c.toNat : Int)).toNat
def lowS (s : List UInt8) : List UInt8 := s.map lowU
theorem low_str (s : List UInt8) : strAV ((bytesAV s).map lowE) = lowS s := by
  unfold strAV bytesAV lowS
  rw [List.map_map, List.map_map]
  rfl
theorem bytes_all (s : List UInt8) : (bytesAV s).all bE = true := List.all_eq_true.2 fun x hx => by
  obtain ⟨b, _, rfl⟩ := List.mem_map.1 hx
  have : b.toNat < 256 := b.toNat_lt
  exact and_t rfl (inR_of (by show (0 : Int) ≤ (b.toNat : Int); omega) (by show (b.toNat : Int) ≤ 255; omega))
def F46 : List AV → Tr AV
  | [.str s] => .gd (small s.length) (.leaf (.str (lowS s)))
  | _ => .no
theorem ok46 : SumOK Tryz.prog 46 (ofT F46) ∧ SNat (ofT F46) := by
  refine fn1 (K := [(3, l46)]) (b := b46) (l := l46) gc Tryz.func46 (by kernel_rfl) (by kernel_rfl) loop46 fun ρ avs k r h => ?_
  unfold F46 at h
  split at h
  · rename_i s
    obtain ⟨hc, hk⟩ := gd_some h
    refine Eq.trans (b := bif lenB s.length then bif cnt (↑(bytesAV s).length : Int) (0 : Int) (bytesAV s).length && (bytesAV s).all bE then k (AV.str (strAV ([] ++ List.map lowE (List.drop (0 : Nat) (bytesAV s))))) else none else none) (by kernel_rfl) ?_
    rw [← hk]
    have hl : (bytesAV s).length = s.length := by unfold bytesAV; rw [List.length_map]
    have hcn : (cnt ((bytesAV s).length : Int) 0 (bytesAV s).length && (bytesAV s).all bE) = true := and_t (cnt_zero (by rw [hl]; exact hc)) (bytes_all s)
    rw [hcn, List.drop_zero, List.nil_append, low_str]
    exact cond_t hc
  · cases h
def atI (s : List UInt8) (i : Nat) : Int := ((s.getD i 0).toNat : Nat)
def allN (p : Int → Bool) (s : List UInt8) : Bool := !(findN (fun i => !p (atI s i)) s.length 0).isSome
theorem atI_r (s : List UInt8) (i : Nat) : 0 ≤ atI s i ∧ atI s i ≤ 255 := by
  have : (s.getD i 0).toNat < 256 := (s.getD i 0).toNat_lt
  unfold atI; omega
def fnI (n : Int) : Bool := inR n 33 126 && !(n == 58)
def F161 : List AV → Tr AV
  | [.int .u8 n] => .leaf (.bool (fnI n))
  | _ => .no
theorem ok161 : SumOK Tryz.prog 161 (ofT F161) ∧ SNat (ofT F161) := by
  refine fn0 g0 Tryz.func161 (by kernel_rfl) fun ρ avs k r h => ?_
  unfold F161 at h
  split at h
  · rename_i n
    have hk := h
    refine Eq.trans (b := bif decide (n ≥ (33 : Int)) then bif decide (n ≤ (126 : Int)) then k (AV.bool (n != (58 : Int))) else k (AV.bool false) else k (AV.bool false)) (by kernel_rfl) ?_
    rw [← hk]
    show _ = k (.bool ((decide (33 ≤ n) && decide (n ≤ 126)) && !(n == 58)))
    cases decide (n ≥ 33) <;> cases decide (n ≤ 126) <;> cases h5 : n == 58 <;> simp [bne, h5]
  · cases h
noncomputable def G160c : Env := { pure := [(161, ofT F161)] }
theorem g160c : GOK Tryz.prog G160c := GOK.also g0 ok161
noncomputable def b160c : Code := ((Tryz.f160.body.map loopsOf).getD []).headD .skip
def L160c : List AV → List (Option Row) → Tr LOut
  | [.str s, .fn 161 [], .bool b, .int .i64 n, .int .i64 i], [] =>
    .gd (cnt n i s.length) (sT (fun i => !fnI (atI s i)) s.length (fun q => .leaf (.ret, [.str s, .fn 161 [], .bool false, .int .i64 n, .int .i64 (q : Nat)], [])) (.leaf (.exit 0, [.str s, .fn 161 [], .bool b, .int .i64 n, .int .i64 s.length], [])) i.toNat)
  | _, _ => .no
def l160c : Ev.Loop := ⟨{ len := 18, slots := [0, 1, 4, 7, 8] }, ofL L160c⟩
def μ160c (vs : List AV) (_ : List (Option Row)) : Nat := match vs with
  | [_, _, _, .int _ n, .int _ i] => (n - i).toNat
  | _ => 0
theorem loop160c : LoopOK Tryz.prog G160c [(2, l160c)] b160c l160c := by
  refine loopT g160c.natOK rfl (KOK.nil (by kernel_rfl)) μ160c (fun ρ vs rs k r h => ?_)
  unfold L160c at h
  split at h
  · rename_i s b n i
    obtain ⟨hc, hk⟩ := gd_some h
    obtain ⟨rfl, hs, j, rfl, hj⟩ := cnt_spec hc
    rw [Int.toNat_natCast] at hk
    refine Eq.trans (b := bif decide ((↑j : Int) < (↑s.length : Int)) then bif inb (↑j : Int) s.length then bif !fnI (↑(s.getD j (0 : UInt8)).toNat : Int) then k Ex.ret [AV.str s, AV.fn (161 : Nat) [], AV.bool false, AV.int IntKind.i64 (↑s.length : Int), AV.int IntKind.i64 (↑j : Int)] [] else bif decide (((↑s.length : Int) - IntKind.i64.wrap ((↑j : Int) + (1 : Int))).toNat < ((↑s.length : Int) - (↑j : Int)).toNat) then bif cnt (↑s.length : Int) (IntKind.i64.wrap ((↑j : Int) + (1 : Int))) s.length then bif (findN (fun i => !fnI (atI s i)) s.length (IntKind.i64.wrap ((↑j : Int) + (1 : Int))).toNat).isSome then k Ex.ret [AV.str s, AV.fn (161 : Nat) [], AV.bool false, AV.int IntKind.i64 (↑s.length : Int), AV.int IntKind.i64 (↑((findN (fun i => !fnI (atI s i)) s.length (IntKind.i64.wrap ((↑j : Int) + (1 : Int))).toNat).getD (0 : Nat)) : Int)] [] else k (Ex.exit (0 : Nat)) [AV.str s, AV.fn (161 : Nat) [], AV.bool b, AV.int IntKind.i64 (↑s.length : Int), AV.int IntKind.i64 (↑s.length : Int)] [] else none else none else none else k (Ex.exit (0 : Nat)) [AV.str s, AV.fn (161 : Nat) [], AV.bool b, AV.int IntKind.i64 (↑s.length : Int), AV.int IntKind.i64 (↑j : Int)] []) (by kernel_rfl) ?_
    rw [← hk]
    by_cases hlt : j < s.length
    · obtain ⟨e1, e2, e3, e4, e5⟩ := cnt_facts hlt hs
      rw [sT_step _ _ _ _ _ hlt]
      simp only [e1, e2, e3, e4, e5, cond_true, Int.toNat_natCast]
      rfl
    · obtain rfl : j = s.length := by omega
      rw [decide_eq_false (by omega), sT_end]
      rfl
  · cases h
def F160c : List AV → Tr AV
  | [.str s, .fn 161 []] => .gd (small s.length) (.leaf (.bool (allN fnI s)))
  | _ => .no
theorem ok160c : SumOK Tryz.prog 160 (ofT F160c) ∧ SNat (ofT F160c) := by
  refine fn1 (K := [(2, l160c)]) (b := b160c) (l := l160c) g160c Tryz.func160 (by kernel_rfl) (by kernel_rfl) loop160c fun ρ avs k r h => ?_
  unfold F160c at h
  split at h
  · rename_i s
    obtain ⟨hc, hk⟩ := gd_some h
    refine Eq.trans (b := bif cnt (↑s.length : Int) (0 : Int) s.length then bif (findN (fun i => !fnI (atI s i)) s.length (0 : Nat)).isSome then k (AV.bool false) else k (AV.bool true) else none) (by kernel_rfl) ?_
    rw [← hk, cnt_zero hc]
    show _ = k (.bool (allN fnI s))
    unfold allN
    cases (findN (fun i => !fnI (atI s i)) s.length 0).isSome <;> rfl
  · cases h
noncomputable def GAll : Env := { pure := [(160, ofT F160c)] }
theorem gAll : GOK Tryz.prog GAll := GOK.also g0 ok160c
def fnB (s : List UInt8) : Bool := !(s == []) && (decide ((s.length : Int) ≤ 60) && allN fnI s)
def F105 : List AV → Tr AV
  | [.str s] => .gd (small s.length) (.leaf (.bool (fnB s)))
  | _ => .no
theorem ok105 : SumOK Tryz.prog 105 (ofT F105) ∧ SNat (ofT F105) := by
  refine fn0 gAll Tryz.func105 (by kernel_rfl) fun ρ avs k r h => ?_
  unfold F105 at h
  split at h
  · rename_i s
    obtain ⟨hc, hk⟩ := gd_some h
    refine Eq.trans (b := bif !s == ([] : List UInt8) then bif decide ((↑s.length : Int) ≤ (60 : Int)) then bif small s.length then k (AV.bool (allN fnI s)) else none else k (AV.bool false) else k (AV.bool false)) (by kernel_rfl) ?_
    rw [← hk, hc]
    show _ = k (.bool (!(s == []) && (decide ((s.length : Int) ≤ 60) && allN fnI s)))
    cases s == [] <;> cases decide ((s.length : Int) ≤ 60) <;> rfl
  · cases h
def eqF (a b : List UInt8) : Bool := ((a.length : Int) == (b.length : Int)) && lowS a == lowS b
noncomputable def G24 : Env := { pure := [(46, ofT F46)] }
theorem g24 : GOK Tryz.prog G24 := GOK.also g0 ok46
def F24 : List AV → Tr AV
  | [.str a, .str b] => .gd (small a.length && small b.length) (.leaf (.bool (eqF a b)))
  | _ => .no
theorem ok24 : SumOK Tryz.prog 24 (ofT F24) ∧ SNat (ofT F24) := by
  refine fn0 g24 Tryz.func24 (by kernel_rfl) fun ρ avs k r h => ?_
  unfold F24 at h
  split at h
  · rename_i a b
    obtain ⟨hc, hk⟩ := gd_some h
    simp only [Bool.and_eq_true] at hc
    obtain ⟨ha, hb⟩ := hc
    refine Eq.trans (b := bif (↑a.length : Int) == (↑b.length : Int) then bif small a.length then bif small b.length then k (AV.bool (lowS a == lowS b)) else none else none else k (AV.bool false)) (by kernel_rfl) ?_
    rw [← hk, ha, hb]
    show _ = k (.bool (((a.length : Int) == (b.length : Int)) && lowS a == lowS b))
    cases (a.length : Int) == (b.length : Int) <;> rfl
  · cases h
end Go.Proofs.YtpmlhkoianekfaaGreatDoor

namespace Go.Proofs
open Go.Shelf
def Tryz.lays119_ren : Go.Shelf.Ren := ⟨fun | 119 => 251 | n => n, fun | 21 => 21 | 4 => 4 | n => n, fun | n => n⟩
theorem Tryz.lays119 : Go.Proofs.Lays.n119 Tryz.prog Tryz.lays119_ren := {
  mixed := by kernel_rfl
  f119 := Tryz.func251.trans (congrArg some (by kernel_rfl))
  t4 := Tryz.underlying4
  a4 := Tryz.isAgg4
  z4 := Tryz.sizeOf4
  v4 := Tryz.zeroValue4
  t21 := Tryz.underlying21
  a21 := Tryz.isAgg21
  z21 := Tryz.sizeOf21
  v21 := Tryz.zeroValue21 }
theorem Tryz.utf8_ValidRune (r : Int) (w : World) :
    Calls Tryz.prog 251 #[.int .i32 r] w fun e w' => e = .returned (.bool (Lib.validRune r)) ∧ w' = w := Any.utf8_ValidRune Tryz.lays119 r w
def Tryz.lays137_ren : Go.Shelf.Ren := ⟨fun | 137 => 62 | 217 => 99 | 266 => 155 | n => n, fun | 9 => 9 | 5 => 5 | 3 => 3 | n => n, fun | n => n⟩
theorem Tryz.lays137 : Go.Proofs.Lays.n137 Tryz.prog Tryz.lays137_ren := {
  mixed := by kernel_rfl
  f137 := Tryz.func62.trans (congrArg some (by kernel_rfl))
  f217 := Tryz.func99.trans (congrArg some (by kernel_rfl))
  f266 := Tryz.func155.trans (congrArg some (by kernel_rfl))
  t3 := Tryz.underlying3
  a3 := Tryz.isAgg3
  z3 := Tryz.sizeOf3
  v3 := Tryz.zeroValue3
  t5 := Tryz.underlying5
  a5 := Tryz.isAgg5
  z5 := Tryz.sizeOf5
  v5 := Tryz.zeroValue5
  t9 := Tryz.underlying9
  a9 := Tryz.isAgg9
  z9 := Tryz.sizeOf9
  v9 := Tryz.zeroValue9 }
open Go.RowKit in
theorem Tryz.strings_IndexByte (s : ByteArray) (c : Int) (w : World) :
    Calls Tryz.prog 62 #[.string s, .int .u8 c] w fun e w' => e = .returned (.int .i64 (Lib.indexByte s.data.toList c.toNat.toUInt8)) ∧ w' = w := Any.strings_IndexByte Tryz.lays137 s c w
def Tryz.laysM171_ren : Go.Shelf.Ren := ⟨fun | 171 => 55 | 243 => 89 | 246 => 137 | 283 => 187 | 284 => 188 | 285 => 189 | 286 => 190 | 129 => 233 | 317 => 232 | 318 => 234 | 319 => 235 | 320 => 236 | 337 => 259 | 338 => 260 | n => n, fun | 3 => 3 | 9 => 9 | 2 => 2 | 4 => 4 | 171 => 244 | 0 => 0 | 53 => 241 | 37 => 22 | 5 => 5 | 173 => 247 | 212 => 288 | 51 => 176 | 20 => 20 | 213 => 289 | 46 => 134 | 232 => 347 | 233 => 348 | n => n, fun | 17 => 3 | 18 => 6 | 19 => 7 | n => n⟩
theorem Tryz.laysM171 : Go.Proofs.LaysM.n171 Tryz.prog Tryz.laysM171_ren := {
  mixed := by kernel_rfl
  f129 := Tryz.func233.trans (congrArg some (by kernel_rfl))
  f171 := Tryz.func55.trans (congrArg some (by kernel_rfl))
  f243 := Tryz.func89.trans (congrArg some (by kernel_rfl))
  f246 := Tryz.func137.trans (congrArg some (by kernel_rfl))
  f283 := Tryz.func187.trans (congrArg some (by kernel_rfl))
  f284 := Tryz.func188.trans (congrArg some (by kernel_rfl))
  f285 := Tryz.func189.trans (congrArg some (by kernel_rfl))
  f286 := Tryz.func190.trans (congrArg some (by kernel_rfl))
  f317 := Tryz.func232.trans (congrArg some (by kernel_rfl))
  f318 := Tryz.func234.trans (congrArg some (by kernel_rfl))
  f319 := Tryz.func235.trans (congrArg some (by kernel_rfl))
  f320 := Tryz.func236.trans (congrArg some (by kernel_rfl))
  f337 := Tryz.func259.trans (congrArg some (by kernel_rfl))
  f338 := Tryz.func260.trans (congrArg some (by kernel_rfl))
  t0 := Tryz.underlying0
  a0 := Tryz.isAgg0
  z0 := Tryz.sizeOf0
  v0 := Tryz.zeroValue0
  t2 := Tryz.underlying2
  a2 := Tryz.isAgg2
  z2 := Tryz.sizeOf2
  v2 := Tryz.zeroValue2
  t3 := Tryz.underlying3
  a3 := Tryz.isAgg3
  z3 := Tryz.sizeOf3
  v3 := Tryz.zeroValue3
  t4 := Tryz.underlying4
  a4 := Tryz.isAgg4
  z4 := Tryz.sizeOf4
  v4 := Tryz.zeroValue4
  t5 := Tryz.underlying5
  a5 := Tryz.isAgg5
  z5 := Tryz.sizeOf5
  v5 := Tryz.zeroValue5
  t9 := Tryz.underlying9
  a9 := Tryz.isAgg9
  z9 := Tryz.sizeOf9
  v9 := Tryz.zeroValue9
  t20 := Tryz.underlying20
  a20 := Tryz.isAgg20
  z20 := Tryz.sizeOf20
  v20 := Tryz.zeroValue20
  t37 := Tryz.underlying22
  a37 := Tryz.isAgg22
  z37 := Tryz.sizeOf22
  v37 := Tryz.zeroValue22
  t46 := Tryz.underlying134
  a46 := Tryz.isAgg134
  z46 := Tryz.sizeOf134
  v46 := Tryz.zeroValue134
  t51 := Tryz.underlying176
  a51 := Tryz.isAgg176
  z51 := Tryz.sizeOf176
  v51 := Tryz.zeroValue176
  t53 := Tryz.underlying241
  a53 := Tryz.isAgg241
  z53 := Tryz.sizeOf241
  v53 := Tryz.zeroValue241
  t171 := Tryz.underlying244
  a171 := Tryz.isAgg244
  z171 := Tryz.sizeOf244
  v171 := Tryz.zeroValue244
  t173 := Tryz.underlying247
  a173 := Tryz.isAgg247
  z173 := Tryz.sizeOf247
  v173 := Tryz.zeroValue247
  t212 := Tryz.underlying288
  a212 := Tryz.isAgg288
  z212 := Tryz.sizeOf288
  v212 := Tryz.zeroValue288
  t213 := Tryz.underlying289
  a213 := Tryz.isAgg289
  z213 := Tryz.sizeOf289
  t232 := Tryz.underlying347
  a232 := Tryz.isAgg347
  z232 := Tryz.sizeOf347
  v232 := Tryz.zeroValue347
  t233 := Tryz.underlying348
  a233 := Tryz.isAgg348
  z233 := Tryz.sizeOf348
  v233 := Tryz.zeroValue348
  g17 := by kernel_rfl
  g18 := by kernel_rfl
  g19 := by kernel_rfl
  i0 := by kernel_rfl
  i2 := by kernel_rfl
  i3 := by kernel_rfl
  i4 := by kernel_rfl
  i5 := by kernel_rfl
  i9 := by kernel_rfl
  i20 := by kernel_rfl
  i37 := by kernel_rfl
  i46 := by kernel_rfl
  i51 := by kernel_rfl
  i53 := by kernel_rfl
  i171 := by kernel_rfl
  i173 := by kernel_rfl
  i212 := by kernel_rfl
  i232 := by kernel_rfl
  i233 := by kernel_rfl
  m17 := by kernel_rfl
  m18 := by kernel_rfl
  m19 := by kernel_rfl }
open Go.RowKit Go.Sort Go.Lib in
theorem Tryz.strconv_Itoa (n : Int) (h0 : -9223372036854775808 ≤ n) (h1 : n ≤ 9223372036854775807) (w : World) (htab : Lib.TabIs Tryz.prog w "internal/strconv.uint64pow10" .u64 Lib.pow10Tab) :
    Calls Tryz.prog 55 #[.int .i64 n] w fun e w' => e = .returned (.string ⟨(Lib.itoa n).toArray⟩) ∧ ∃ k os, w' = grow (w.drewN k) os := Any.strconv_Itoa Tryz.laysM171 n h0 h1 w htab
def Tryz.lays102_ren : Go.Shelf.Ren := ⟨fun | 102 => 131 | 209 => 179 | 207 => 226 | n => n, fun | 9 => 9 | 4 => 4 | 3 => 3 | n => n, fun | n => n⟩
theorem Tryz.lays102 : Go.Proofs.Lays.n102 Tryz.prog Tryz.lays102_ren := {
  mixed := by kernel_rfl
  f102 := Tryz.func131.trans (congrArg some (by kernel_rfl))
  f207 := Tryz.func226.trans (congrArg some (by kernel_rfl))
  f209 := Tryz.func179.trans (congrArg some (by kernel_rfl))
  t3 := Tryz.underlying3
  a3 := Tryz.isAgg3
  z3 := Tryz.sizeOf3
  v3 := Tryz.zeroValue3
  t4 := Tryz.underlying4
  a4 := Tryz.isAgg4
  z4 := Tryz.sizeOf4
  v4 := Tryz.zeroValue4
  t9 := Tryz.underlying9
  a9 := Tryz.isAgg9
  z9 := Tryz.sizeOf9
  v9 := Tryz.zeroValue9 }
open Go.RowKit Go.Lib in
theorem Tryz.strings_TrimSuffix (s p : ByteArray) (w : World) (hs : s.size ≤ 9223372036854775807) :
    Calls Tryz.prog 131 #[.string s, .string p] w fun e w' => e = .returned (.string ⟨(Lib.trimSuffix s.data.toList p.data.toList).toArray⟩) ∧ w' = w := Any.strings_TrimSuffix Tryz.lays102 s p w hs
def Tryz.lays155_ren : Go.Shelf.Ren := ⟨fun | 155 => 61 | 154 => 98 | 138 => 152 | 165 => 135 | 143 => 153 | 166 => 63 | 197 => 154 | 169 => 67 | 195 => 204 | 218 => 205 | 240 => 100 | 241 => 186 | 219 => 206 | 260 => 207 | 276 => 156 | 277 => 231 | 217 => 99 | 225 => 245 | 224 => 229 | 267 => 246 | 266 => 155 | 314 => 269 | n => n, fun | 9 => 9 | 3 => 3 | 4 => 4 | 72 => 113 | 0 => 0 | 76 => 117 | 105 => 218 | 21 => 21 | 5 => 5 | 70 => 111 | 20 => 20 | 37 => 22 | 75 => 116 | 127 => 168 | 164 => 220 | 46 => 134 | 119 => 257 | 139 => 260 | 138 => 259 | 146 => 239 | 51 => 176 | 80 => 122 | n => n, fun | 1 => 2 | 3 => 0 | 4 => 1 | n => n⟩
theorem Tryz.lays155 : Go.Proofs.Lays.n155 Tryz.prog Tryz.lays155_ren := {
  mixed := by kernel_rfl
  f138 := Tryz.func152.trans (congrArg some (by kernel_rfl))
  f143 := Tryz.func153.trans (congrArg some (by kernel_rfl))
  f154 := Tryz.func98.trans (congrArg some (by kernel_rfl))
  f155 := Tryz.func61.trans (congrArg some (by kernel_rfl))
  f165 := Tryz.func135.trans (congrArg some (by kernel_rfl))
  f166 := Tryz.func63.trans (congrArg some (by kernel_rfl))
  f169 := Tryz.func67.trans (congrArg some (by kernel_rfl))
  f195 := Tryz.func204.trans (congrArg some (by kernel_rfl))
  f197 := Tryz.func154.trans (congrArg some (by kernel_rfl))
  f217 := Tryz.func99.trans (congrArg some (by kernel_rfl))
  f218 := Tryz.func205.trans (congrArg some (by kernel_rfl))
  f219 := Tryz.func206.trans (congrArg some (by kernel_rfl))
  f224 := Tryz.func229.trans (congrArg some (by kernel_rfl))
  f225 := Tryz.func245.trans (congrArg some (by kernel_rfl))
  f240 := Tryz.func100.trans (congrArg some (by kernel_rfl))
  f241 := Tryz.func186.trans (congrArg some (by kernel_rfl))
  f260 := Tryz.func207.trans (congrArg some (by kernel_rfl))
  f266 := Tryz.func155.trans (congrArg some (by kernel_rfl))
  f267 := Tryz.func246.trans (congrArg some (by kernel_rfl))
  f276 := Tryz.func156.trans (congrArg some (by kernel_rfl))
  f277 := Tryz.func231.trans (congrArg some (by kernel_rfl))
  f314 := Tryz.func269.trans (congrArg some (by kernel_rfl))
  t0 := Tryz.underlying0
  a0 := Tryz.isAgg0
  z0 := Tryz.sizeOf0
  v0 := Tryz.zeroValue0
  t3 := Tryz.underlying3
  a3 := Tryz.isAgg3
  z3 := Tryz.sizeOf3
  v3 := Tryz.zeroValue3
  t4 := Tryz.underlying4
  a4 := Tryz.isAgg4
  z4 := Tryz.sizeOf4
  v4 := Tryz.zeroValue4
  t5 := Tryz.underlying5
  a5 := Tryz.isAgg5
  z5 := Tryz.sizeOf5
  v5 := Tryz.zeroValue5
  t9 := Tryz.underlying9
  a9 := Tryz.isAgg9
  z9 := Tryz.sizeOf9
  v9 := Tryz.zeroValue9
  t20 := Tryz.underlying20
  a20 := Tryz.isAgg20
  z20 := Tryz.sizeOf20
  v20 := Tryz.zeroValue20
  t21 := Tryz.underlying21
  a21 := Tryz.isAgg21
  z21 := Tryz.sizeOf21
  v21 := Tryz.zeroValue21
  t37 := Tryz.underlying22
  a37 := Tryz.isAgg22
  z37 := Tryz.sizeOf22
  v37 := Tryz.zeroValue22
  t46 := Tryz.underlying134
  a46 := Tryz.isAgg134
  z46 := Tryz.sizeOf134
  v46 := Tryz.zeroValue134
  t51 := Tryz.underlying176
  a51 := Tryz.isAgg176
  z51 := Tryz.sizeOf176
  v51 := Tryz.zeroValue176
  t70 := Tryz.underlying111
  a70 := Tryz.isAgg111
  z70 := Tryz.sizeOf111
  v70 := Tryz.zeroValue111
  t72 := Tryz.underlying113
  a72 := Tryz.isAgg113
  z72 := Tryz.sizeOf113
  v72 := Tryz.zeroValue113
  t75 := Tryz.underlying116
  a75 := Tryz.isAgg116
  z75 := Tryz.sizeOf116
  v75 := Tryz.zeroValue116
  t76 := Tryz.underlying117
  a76 := Tryz.isAgg117
  z76 := Tryz.sizeOf117
  v76 := Tryz.zeroValue117
  t105 := Tryz.underlying218
  a105 := Tryz.isAgg218
  z105 := Tryz.sizeOf218
  v105 := Tryz.zeroValue218
  t119 := Tryz.underlying257
  a119 := Tryz.isAgg257
  z119 := Tryz.sizeOf257
  t127 := Tryz.underlying168
  a127 := Tryz.isAgg168
  z127 := Tryz.sizeOf168
  v127 := Tryz.zeroValue168
  t138 := Tryz.underlying259
  a138 := Tryz.isAgg259
  z138 := Tryz.sizeOf259
  v138 := Tryz.zeroValue259
  t139 := Tryz.underlying260
  a139 := Tryz.isAgg260
  z139 := Tryz.sizeOf260
  v139 := Tryz.zeroValue260
  t146 := Tryz.underlying239
  a146 := Tryz.isAgg239
  z146 := Tryz.sizeOf239
  v146 := Tryz.zeroValue239
  t164 := Tryz.underlying220
  a164 := Tryz.isAgg220
  z164 := Tryz.sizeOf220
  v164 := Tryz.zeroValue220
  g1 := by kernel_rfl
  g3 := by kernel_rfl
  g4 := by kernel_rfl }
theorem Tryz.Builder_Extra_155 : Builder.Extra Tryz.prog Tryz.lays155_ren := {
  sizeBuilder := by kernel_rfl
  liesBuilder := by kernel_rfl
  t5 := Tryz.underlying5
  a5 := Tryz.isAgg5
  z5 := Tryz.sizeOf5
  v5 := Tryz.zeroValue5
  infoByte := by kernel_rfl
  cellsByte := by kernel_rfl
  sizeByte := by kernel_rfl
  neB5 := by decide }
open Go.RowKit Go.Lib in
theorem Tryz.strings_ReplaceAll (s old new : ByteArray) (m : Int) (w : World) (hs : s.size < 4294967281) (hm : w.cell? ⟨2, 0, none⟩ = some (.int .i64 m)) (h1 : 1 ≤ old.size) (hlen : s.size + Lib.countB s old * new.size ≤ 140737488355328) :
    Calls Tryz.prog 61 #[.string s, .string old, .string new] w fun e w' =>
      e = .returned (.string ⟨(Lib.replaceAll s.data.toList old.data.toList new.data.toList).toArray⟩) ∧ Below w.heap.size w w' := Any.strings_ReplaceAll Tryz.lays155 Tryz.Builder_Extra_155 s old new m w hs hm h1 hlen
def Tryz.lays152_ren : Go.Shelf.Ren := ⟨fun | 152 => 214 | 137 => 62 | 119 => 251 | 224 => 229 | 225 => 245 | 217 => 99 | 266 => 155 | n => n, fun | 9 => 9 | 21 => 21 | 3 => 3 | 4 => 4 | 5 => 5 | 0 => 0 | 46 => 134 | n => n, fun | n => n⟩
theorem Tryz.lays152 : Go.Proofs.Lays.n152 Tryz.prog Tryz.lays152_ren := {
  mixed := by kernel_rfl
  f119 := Tryz.func251.trans (congrArg some (by kernel_rfl))
  f137 := Tryz.func62.trans (congrArg some (by kernel_rfl))
  f152 := Tryz.func214.trans (congrArg some (by kernel_rfl))
  f217 := Tryz.func99.trans (congrArg some (by kernel_rfl))
  f224 := Tryz.func229.trans (congrArg some (by kernel_rfl))
  f225 := Tryz.func245.trans (congrArg some (by kernel_rfl))
  f266 := Tryz.func155.trans (congrArg some (by kernel_rfl))
  t0 := Tryz.underlying0
  a0 := Tryz.isAgg0
  z0 := Tryz.sizeOf0
  v0 := Tryz.zeroValue0
  t3 := Tryz.underlying3
  a3 := Tryz.isAgg3
  z3 := Tryz.sizeOf3
  v3 := Tryz.zeroValue3
  t4 := Tryz.underlying4
  a4 := Tryz.isAgg4
  z4 := Tryz.sizeOf4
  v4 := Tryz.zeroValue4
  t5 := Tryz.underlying5
  a5 := Tryz.isAgg5
  z5 := Tryz.sizeOf5
  v5 := Tryz.zeroValue5
  t9 := Tryz.underlying9
  a9 := Tryz.isAgg9
  z9 := Tryz.sizeOf9
  v9 := Tryz.zeroValue9
  t21 := Tryz.underlying21
  a21 := Tryz.isAgg21
  z21 := Tryz.sizeOf21
  v21 := Tryz.zeroValue21
  t46 := Tryz.underlying134
  a46 := Tryz.isAgg134
  z46 := Tryz.sizeOf134
  v46 := Tryz.zeroValue134 }
open Go.RowKit Go.Lib in
theorem Tryz.strings_IndexRune_ascii (s : ByteArray) (r : Int) (w : World) (h0 : 0 ≤ r) (h1 : r < 128) :
    Calls Tryz.prog 214 #[.string s, .int .i32 r] w fun e w' => e = .returned (.int .i64 (Lib.indexByte s.data.toList r.toNat.toUInt8)) ∧ w' = w := Any.strings_IndexRune_ascii Tryz.lays152 s r w h0 h1
def Tryz.lays226_ren : Go.Shelf.Ren := ⟨fun | 226 => 272 | n => n, fun | 3 => 3 | 4 => 4 | n => n, fun | n => n⟩
theorem Tryz.lays226 : Go.Proofs.Lays.n226 Tryz.prog Tryz.lays226_ren := {
  mixed := by kernel_rfl
  f226 := Tryz.func272.trans (congrArg some (by kernel_rfl))
  t3 := Tryz.underlying3
  a3 := Tryz.isAgg3
  z3 := Tryz.sizeOf3
  v3 := Tryz.zeroValue3
  t4 := Tryz.underlying4
  a4 := Tryz.isAgg4
  z4 := Tryz.sizeOf4
  v4 := Tryz.zeroValue4 }
open Go.RowKit Go.Lib in
theorem Tryz.strings_shouldUseASCIISet (n : Int) (w : World) :
    Calls Tryz.prog 272 #[.int .i64 n] w fun e w' => e = .returned (.bool (decide (8 < n))) ∧ w' = w := Any.strings_shouldUseASCIISet Tryz.lays226 n w
def Tryz.lays153_ren : Go.Shelf.Ren := ⟨fun | 153 => 250 | 152 => 214 | 226 => 272 | 227 => 113 | 228 => 165 | 137 => 62 | 119 => 251 | 224 => 229 | 225 => 245 | 217 => 99 | 266 => 155 | n => n, fun | 9 => 9 | 3 => 3 | 4 => 4 | 5 => 5 | 21 => 21 | 117 => 192 | 116 => 191 | 0 => 0 | 46 => 134 | 124 => 195 | n => n, fun | n => n⟩
theorem Tryz.lays153 : Go.Proofs.Lays.n153 Tryz.prog Tryz.lays153_ren := {
  mixed := by kernel_rfl
  f119 := Tryz.func251.trans (congrArg some (by kernel_rfl))
  f137 := Tryz.func62.trans (congrArg some (by kernel_rfl))
  f152 := Tryz.func214.trans (congrArg some (by kernel_rfl))
  f153 := Tryz.func250.trans (congrArg some (by kernel_rfl))
  f217 := Tryz.func99.trans (congrArg some (by kernel_rfl))
  f224 := Tryz.func229.trans (congrArg some (by kernel_rfl))
  f225 := Tryz.func245.trans (congrArg some (by kernel_rfl))
  f226 := Tryz.func272.trans (congrArg some (by kernel_rfl))
  f227 := Tryz.func113.trans (congrArg some (by kernel_rfl))
  f228 := Tryz.func165.trans (congrArg some (by kernel_rfl))
  f266 := Tryz.func155.trans (congrArg some (by kernel_rfl))
  t0 := Tryz.underlying0
  a0 := Tryz.isAgg0
  z0 := Tryz.sizeOf0
  v0 := Tryz.zeroValue0
  t3 := Tryz.underlying3
  a3 := Tryz.isAgg3
  z3 := Tryz.sizeOf3
  v3 := Tryz.zeroValue3
  t4 := Tryz.underlying4
  a4 := Tryz.isAgg4
  z4 := Tryz.sizeOf4
  v4 := Tryz.zeroValue4
  t5 := Tryz.underlying5
  a5 := Tryz.isAgg5
  z5 := Tryz.sizeOf5
  v5 := Tryz.zeroValue5
  t9 := Tryz.underlying9
  a9 := Tryz.isAgg9
  z9 := Tryz.sizeOf9
  v9 := Tryz.zeroValue9
  t21 := Tryz.underlying21
  a21 := Tryz.isAgg21
  z21 := Tryz.sizeOf21
  v21 := Tryz.zeroValue21
  t46 := Tryz.underlying134
  a46 := Tryz.isAgg134
  z46 := Tryz.sizeOf134
  v46 := Tryz.zeroValue134
  t116 := Tryz.underlying191
  a116 := Tryz.isAgg191
  z116 := Tryz.sizeOf191
  t117 := Tryz.underlying192
  a117 := Tryz.isAgg192
  z117 := Tryz.sizeOf192
  v117 := Tryz.zeroValue192
  t124 := Tryz.underlying195
  a124 := Tryz.isAgg195
  z124 := Tryz.sizeOf195
  v124 := Tryz.zeroValue195 }
open Go.RowKit Go.Lib in
theorem Tryz.strings_IndexAny_long (hv116 : ∀ w, (zeroValue 191).run Tryz.prog w = .ok (.agg (Array.replicate 256 (.bool false))) w) (s chars : ByteArray) (w : World) (h2 : 2 ≤ chars.size) (h8 : 8 < s.size) (hs : s.size < 4294967281) (hcs : chars.size < 4294967281) (hascii : ∀ (j : Nat) b, chars.data.toList[j]? = some b → b.toNat < 128) :
    Calls Tryz.prog 250 #[.string s, .string chars] w fun e w' => e = .returned (.int .i64 (Lib.indexAny s.data.toList chars.data.toList)) ∧ w' = ((w.alloc (.cells (Lib.setCells chars.data.toList) 191)).alloc (.cells (Lib.setCells chars.data.toList) 191)) := Any.strings_IndexAny_long Tryz.lays153 hv116 (by kernel_rfl) s chars w h2 h8 hs hcs hascii
def Tryz.lays105_ren : Go.Shelf.Ren := ⟨fun | 105 => 87 | 212 => 133 | 99 => 134 | 165 => 135 | 166 => 63 | 170 => 136 | 169 => 67 | 263 => 183 | 264 => 184 | 206 => 185 | 240 => 100 | 241 => 186 | 276 => 156 | 277 => 231 | n => n, fun | 9 => 9 | 3 => 3 | 4 => 4 | 20 => 20 | 0 => 0 | 46 => 134 | 109 => 203 | 5 => 5 | 72 => 113 | 76 => 117 | 51 => 176 | 146 => 239 | 53 => 241 | 148 => 242 | 70 => 111 | 37 => 22 | 75 => 116 | 127 => 168 | 164 => 220 | 80 => 122 | n => n, fun | n => n⟩
theorem Tryz.lays105 : Go.Proofs.Lays.n105 Tryz.prog Tryz.lays105_ren := {
  mixed := by kernel_rfl
  f99 := Tryz.func134.trans (congrArg some (by kernel_rfl))
  f105 := Tryz.func87.trans (congrArg some (by kernel_rfl))
  f165 := Tryz.func135.trans (congrArg some (by kernel_rfl))
  f166 := Tryz.func63.trans (congrArg some (by kernel_rfl))
  f169 := Tryz.func67.trans (congrArg some (by kernel_rfl))
  f170 := Tryz.func136.trans (congrArg some (by kernel_rfl))
  f206 := Tryz.func185.trans (congrArg some (by kernel_rfl))
  f212 := Tryz.func133.trans (congrArg some (by kernel_rfl))
  f240 := Tryz.func100.trans (congrArg some (by kernel_rfl))
  f241 := Tryz.func186.trans (congrArg some (by kernel_rfl))
  f263 := Tryz.func183.trans (congrArg some (by kernel_rfl))
  f264 := Tryz.func184.trans (congrArg some (by kernel_rfl))
  f276 := Tryz.func156.trans (congrArg some (by kernel_rfl))
  f277 := Tryz.func231.trans (congrArg some (by kernel_rfl))
  t0 := Tryz.underlying0
  a0 := Tryz.isAgg0
  z0 := Tryz.sizeOf0
  v0 := Tryz.zeroValue0
  t3 := Tryz.underlying3
  a3 := Tryz.isAgg3
  z3 := Tryz.sizeOf3
  v3 := Tryz.zeroValue3
  t4 := Tryz.underlying4
  a4 := Tryz.isAgg4
  z4 := Tryz.sizeOf4
  v4 := Tryz.zeroValue4
  t5 := Tryz.underlying5
  a5 := Tryz.isAgg5
  z5 := Tryz.sizeOf5
  v5 := Tryz.zeroValue5
  t9 := Tryz.underlying9
  a9 := Tryz.isAgg9
  z9 := Tryz.sizeOf9
  v9 := Tryz.zeroValue9
  t20 := Tryz.underlying20
  a20 := Tryz.isAgg20
  z20 := Tryz.sizeOf20
  v20 := Tryz.zeroValue20
  t37 := Tryz.underlying22
  a37 := Tryz.isAgg22
  z37 := Tryz.sizeOf22
  v37 := Tryz.zeroValue22
  t46 := Tryz.underlying134
  a46 := Tryz.isAgg134
  z46 := Tryz.sizeOf134
  v46 := Tryz.zeroValue134
  t51 := Tryz.underlying176
  a51 := Tryz.isAgg176
  z51 := Tryz.sizeOf176
  v51 := Tryz.zeroValue176
  t53 := Tryz.underlying241
  a53 := Tryz.isAgg241
  z53 := Tryz.sizeOf241
  v53 := Tryz.zeroValue241
  t70 := Tryz.underlying111
  a70 := Tryz.isAgg111
  z70 := Tryz.sizeOf111
  v70 := Tryz.zeroValue111
  t72 := Tryz.underlying113
  a72 := Tryz.isAgg113
  z72 := Tryz.sizeOf113
  v72 := Tryz.zeroValue113
  t75 := Tryz.underlying116
  a75 := Tryz.isAgg116
  z75 := Tryz.sizeOf116
  v75 := Tryz.zeroValue116
  t76 := Tryz.underlying117
  a76 := Tryz.isAgg117
  z76 := Tryz.sizeOf117
  v76 := Tryz.zeroValue117
  t109 := Tryz.underlying203
  a109 := Tryz.isAgg203
  z109 := Tryz.sizeOf203
  v109 := Tryz.zeroValue203
  t127 := Tryz.underlying168
  a127 := Tryz.isAgg168
  z127 := Tryz.sizeOf168
  v127 := Tryz.zeroValue168
  t146 := Tryz.underlying239
  a146 := Tryz.isAgg239
  z146 := Tryz.sizeOf239
  v146 := Tryz.zeroValue239
  t148 := Tryz.underlying242
  a148 := Tryz.isAgg242
  z148 := Tryz.sizeOf242
  v148 := Tryz.zeroValue242
  t164 := Tryz.underlying220
  a164 := Tryz.isAgg220
  z164 := Tryz.sizeOf220
  v164 := Tryz.zeroValue220 }
theorem Tryz.Builder_Extra_105 : Builder.Extra Tryz.prog Tryz.lays105_ren := {
  sizeBuilder := by kernel_rfl
  liesBuilder := by kernel_rfl
  t5 := Tryz.underlying5
  a5 := Tryz.isAgg5
  z5 := Tryz.sizeOf5
  v5 := Tryz.zeroValue5
  infoByte := by kernel_rfl
  cellsByte := by kernel_rfl
  sizeByte := by kernel_rfl
  neB5 := by decide }
open Go.RowKit Go.Lib in
theorem Tryz.strings_Repeat (s : ByteArray) (c : Nat) (w : World) (hc : c ≤ 9223372036854775807) (hlen : s.size * c ≤ 140737488355328) :
    Calls Tryz.prog 87 #[.string s, .int .i64 c] w fun e w' => e = .returned (.string ⟨(Lib.repeatL s.data.toList c).toArray⟩) ∧ Below w.heap.size w w' := Any.strings_Repeat Tryz.lays105 Tryz.Builder_Extra_105 s c w hc hlen
def Tryz.lays185_ren : Go.Shelf.Ren := ⟨fun | 185 => 182 | 187 => 108 | 115 => 30 | 253 => 228 | 224 => 229 | 254 => 230 | 255 => 163 | 291 => 258 | n => n, fun | 37 => 22 | 3 => 3 | 4 => 4 | 0 => 0 | 5 => 5 | 46 => 134 | 9 => 9 | 146 => 239 | 51 => 176 | n => n, fun | 1 => 2 | n => n⟩
theorem Tryz.lays185 : Go.Proofs.Lays.n185 Tryz.prog Tryz.lays185_ren := {
  mixed := by kernel_rfl
  f115 := Tryz.func30.trans (congrArg some (by kernel_rfl))
  f185 := Tryz.func182.trans (congrArg some (by kernel_rfl))
  f187 := Tryz.func108.trans (congrArg some (by kernel_rfl))
  f224 := Tryz.func229.trans (congrArg some (by kernel_rfl))
  f253 := Tryz.func228.trans (congrArg some (by kernel_rfl))
  f254 := Tryz.func230.trans (congrArg some (by kernel_rfl))
  f255 := Tryz.func163.trans (congrArg some (by kernel_rfl))
  f291 := Tryz.func258.trans (congrArg some (by kernel_rfl))
  t0 := Tryz.underlying0
  a0 := Tryz.isAgg0
  z0 := Tryz.sizeOf0
  v0 := Tryz.zeroValue0
  t3 := Tryz.underlying3
  a3 := Tryz.isAgg3
  z3 := Tryz.sizeOf3
  v3 := Tryz.zeroValue3
  t4 := Tryz.underlying4
  a4 := Tryz.isAgg4
  z4 := Tryz.sizeOf4
  v4 := Tryz.zeroValue4
  t5 := Tryz.underlying5
  a5 := Tryz.isAgg5
  z5 := Tryz.sizeOf5
  v5 := Tryz.zeroValue5
  t9 := Tryz.underlying9
  a9 := Tryz.isAgg9
  z9 := Tryz.sizeOf9
  v9 := Tryz.zeroValue9
  t37 := Tryz.underlying22
  a37 := Tryz.isAgg22
  z37 := Tryz.sizeOf22
  v37 := Tryz.zeroValue22
  t46 := Tryz.underlying134
  a46 := Tryz.isAgg134
  z46 := Tryz.sizeOf134
  v46 := Tryz.zeroValue134
  t51 := Tryz.underlying176
  a51 := Tryz.isAgg176
  z51 := Tryz.sizeOf176
  v51 := Tryz.zeroValue176
  t146 := Tryz.underlying239
  a146 := Tryz.isAgg239
  z146 := Tryz.sizeOf239
  v146 := Tryz.zeroValue239
  g1 := by kernel_rfl }
open Go.RowKit Go.Lib in
theorem Tryz.bytes_Index_longer (p q : Option Addr) (n c m d : Nat) (w : World) (h2 : 2 ≤ m) (hnm : n < m) (hm : m ≤ 9223372036854775807) :
    Calls Tryz.prog 182 #[.slice p n c, .slice q m d] w fun e w' => e = .returned (.int .i64 (-1)) ∧ w' = w := Any.bytes_Index_longer Tryz.lays185 p q n c m d w h2 hnm hm
def Tryz.lays187_ren : Go.Shelf.Ren := ⟨fun | 187 => 108 | 255 => 163 | n => n, fun | 37 => 22 | 5 => 5 | 3 => 3 | n => n, fun | n => n⟩
theorem Tryz.lays187 : Go.Proofs.Lays.n187 Tryz.prog Tryz.lays187_ren := {
  mixed := by kernel_rfl
  f187 := Tryz.func108.trans (congrArg some (by kernel_rfl))
  f255 := Tryz.func163.trans (congrArg some (by kernel_rfl))
  t3 := Tryz.underlying3
  a3 := Tryz.isAgg3
  z3 := Tryz.sizeOf3
  v3 := Tryz.zeroValue3
  t5 := Tryz.underlying5
  a5 := Tryz.isAgg5
  z5 := Tryz.sizeOf5
  v5 := Tryz.zeroValue5
  t37 := Tryz.underlying22
  a37 := Tryz.isAgg22
  z37 := Tryz.sizeOf22
  v37 := Tryz.zeroValue22 }
open Go.Proofs Go.RowKit Go.Lib in
theorem Tryz.bytes_Index_at (a1 a2 : Addr) (n c1 k c2 : Nat) (xs ys : List Int) (m : Int) (w : World) (hx : xs.length = n) (hy : ys.length = k) (hr1 : ∀ x ∈ xs, 0 ≤ x ∧ x < 256) (hr2 : ∀ y ∈ ys, 0 ≤ y ∧ y < 256) (hc1 : ∀ i, i < n → w.cell? (a1.add i) = some (.int .u8 (xs.getD i 0))) (hc2 : ∀ i, i < k → w.cell? (a2.add i) = some (.int .u8 (ys.getD i 0))) (hcap : n ≤ c1) (hs : n < 4294967281) (hk : k ≤ 9223372036854775807) (hm : w.cell? ⟨2, 0, none⟩ = some (.int .i64 m)) :
    Calls Tryz.prog 182 #[.slice (some a1) n c1, .slice (some a2) k c2] w fun e w' => e = .returned (.int .i64 (Lib.index (Lib.bytesOf xs) (Lib.bytesOf ys))) ∧ ∃ q, w' = w.drewN q := Any.bytes_Index_at Tryz.lays185 a1 a2 n c1 k c2 xs ys m w hx hy hr1 hr2 hc1 hc2 hcap hs hk hm
def Tryz.laysnb117_ren : Go.Shelf.Ren := ⟨fun | 117 => 123 | 115 => 30 | n => n, fun | 37 => 22 | 4 => 4 | 3 => 3 | 9 => 9 | 5 => 5 | n => n, fun | n => n⟩
theorem Tryz.laysnb117 : Go.Proofs.Lays.nb117 Tryz.prog Tryz.laysnb117_ren := {
  mixed := by kernel_rfl
  f115 := Tryz.func30.trans (congrArg some (by kernel_rfl))
  f117 := Tryz.func123.trans (congrArg some (by kernel_rfl))
  t3 := Tryz.underlying3
  a3 := Tryz.isAgg3
  z3 := Tryz.sizeOf3
  v3 := Tryz.zeroValue3
  t4 := Tryz.underlying4
  a4 := Tryz.isAgg4
  z4 := Tryz.sizeOf4
  v4 := Tryz.zeroValue4
  t9 := Tryz.underlying9
  a9 := Tryz.isAgg9
  z9 := Tryz.sizeOf9
  v9 := Tryz.zeroValue9
  t37 := Tryz.underlying22
  a37 := Tryz.isAgg22
  z37 := Tryz.sizeOf22
  v37 := Tryz.zeroValue22
  t5 := Tryz.underlying5
  a5 := Tryz.isAgg5
  z5 := Tryz.sizeOf5
  v5 := Tryz.zeroValue5 }
theorem Tryz.bytes_HasSuffix_all (p1 p2 : Option Addr) (n c m d : Nat) (xs ys : List Int) (w : World) (hx : xs.length = n) (hy : ys.length = m) (hnc : n ≤ c) (hbig : n ≤ 9223372036854775807) (h1 : Lib.BytesIn w p1 n xs) (h2 : Lib.BytesIn w p2 m ys) :
    Calls Tryz.prog 123 #[.slice p1 n c, .slice p2 m d] w fun e w' => e = .returned (.bool (Lib.hasSuffix (Lib.bytesOf xs) (Lib.bytesOf ys))) ∧ w' = w := Any.bytes_HasSuffix_all Tryz.laysnb117 p1 p2 n c m d xs ys w hx hy hnc hbig h1 h2
theorem Tryz.bytes_IndexByte (b o n c : Nat) (xs : List Int) (cv : Int) (w : World) (hx : xs.length = n) (hc : ∀ i, i < n → w.cell? ⟨b, o + i, none⟩ = some (.int .u8 (xs.getD i 0))) :
    Calls Tryz.prog 108 #[.slice (some ⟨b, o, none⟩) n c, .int .u8 cv] w fun e w' => e = .returned (.int .i64 (Lib.indexByte (Lib.bytesOf xs) cv.toNat.toUInt8)) ∧ w' = w := Any.bytes_IndexByte Tryz.lays187 b o n c xs cv w hx hc
end Go.Proofs
