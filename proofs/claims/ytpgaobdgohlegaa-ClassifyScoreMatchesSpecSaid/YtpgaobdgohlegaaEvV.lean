/-
  The frame of a law's row: a function of plain data that answers true.
-/
import Derived.Test.YtpgaobdgohlegaaEvU
import Derived.JoinedCond
import Derived.WideKeyArgs
namespace Go.Ev
open Go.RowKit Go.WideShapes Go.ChangeShapes

def hasAll : List Sh → List AV → Bool
  | [], [] => true
  | s :: l, c :: cs => hasSh s c && hasAll l cs
  | _, _ => false

/-- What a call of a law finds: values of the parameters' shapes that fit, of this bulk. -/
structure Given (ss : List Sh) (avs : List AV) (m : Nat) : Prop where
  has : hasAll ss avs = true
  fit : ∀ a ∈ avs, Fit a
  sz : AV.szs avs ≤ m

section
variable {H : Type} {enc : TypeId × Value → H} {P : Program}

theorem open_args (B : BK H) {n : Nat} {w : World} {sp : Nat → Bool} {held : Bool} {r : Reach} {b0 : Nat} : ∀ (ts : List TypeId) (vs : List Value) (ds : List (DataW H)) (ps : List MemPlace), (∀ t ∈ ts, tyOK P n t = true) →
    (∀ (j : Nat) (t : TypeId) (v : Value), ts[j]? = some t → vs[j]? = some v → Value.okWide P w r b0 t v) → DataW.TrodAll enc P w 0 sp held ts vs ds ps →
    ∃ avs, VRels w (here w) nob avs vs ∧ Given (ts.map (shOf P n)) avs (B.all ds) ∧ ds.length = ts.length
  | [], [], [], ps, _, _, _ => ⟨[], VRels.nil, ⟨rfl, by simp, by simp [AV.szs]⟩, rfl⟩
  | [], [], _ :: _, ps, _, _, h => h.elim
  | [], _ :: _, _, ps, _, _, h => by cases ‹List (DataW H)› <;> exact h.elim
  | _ :: _, [], _, ps, _, _, h => by cases ‹List (DataW H)› <;> exact h.elim
  | _ :: _, _ :: _, [], ps, _, _, h => h.elim
  | t :: ts, v :: vs, d :: ds, ps, ht, hv, h => by
    obtain ⟨p, q, h1, h2, rfl⟩ := h
    obtain ⟨av, a1, a2, a3, a4⟩ := open_arg B (ht t (by simp)) (hv 0 t v rfl rfl) h1
    obtain ⟨avs, i1, i2, i3⟩ := open_args B ts vs ds q (fun t' h' => ht t' (by simp [h'])) (fun j t' v' h1 h2 => hv (j + 1) t' v' h1 h2) h2
    refine ⟨av :: avs, VRels.cons a1 i1, ⟨?_, ?_, ?_⟩, by simp [i3]⟩
    · simp only [List.map_cons, hasAll, Bool.and_eq_true]; exact ⟨a2, i2.has⟩
    · intro a ha
      simp only [List.mem_cons] at ha
      rcases ha with rfl | ha
      · exact a3
      · exact i2.fit a ha
    · simp only [AV.szs, B.acons]
      have := i2.sz
      omega

theorem keep_args {W W' : World} {sp : Nat → Bool} (hl : laidOutB P = true) (hb : Below W.heap.size W W') : ∀ (ts : List TypeId) (vs : List Value) (ds : List (DataW H)) (ps : List MemPlace), (∀ t ∈ ts, P.readableRec t = true ∧ t < P.types.size) →
    DataW.TrodAll enc P W 0 (fun _ => true) true ts vs ds ps → (∀ x ∈ ps, x.block < W.heap.size) → (∀ x ∈ ps, sp x.block = true) → DataW.TrodAll enc P W' 0 sp true ts vs ds ps
  | [], [], [], ps, _, h, _, _ => h
  | [], [], _ :: _, ps, _, h, _, _ => h.elim
  | [], _ :: _, _, ps, _, h, _, _ => by cases ‹List (DataW H)› <;> exact h.elim
  | _ :: _, [], _, ps, _, h, _, _ => by cases ‹List (DataW H)› <;> exact h.elim
  | _ :: _, _ :: _, [], ps, _, h, _, _ => h.elim
  | t :: ts, v :: vs, d :: ds, ps, ht, h, hlt, hs => by
    obtain ⟨p, q, h1, h2, rfl⟩ := h
    refine ⟨p, q, ?_, keep_args hl hb ts vs ds q (fun t' h' => ht t' (by simp [h'])) h2 (fun x hx => hlt x (by simp [hx])) (fun x hx => hs x (by simp [hx])), rfl⟩
    obtain ⟨r1, r2⟩ := ht t (by simp)
    exact WideElems.Trod_stays hl r1 r2 h1 (fun x hx => hb.same (hlt x (by simp [hx]))) (fun x hx => hs x (by simp [hx]))

theorem post_of_below {f : Func} {s : ChangeSpec} {apart fresh handsOn again : Bool} {W W' : World} {args : Array Value} {v : Value} {ds gs : List (DataW H)} {before pa pv : List MemPlace}
    (hW : DataW.Whole enc P f.params.toList s.vars apart W args.toList ds gs before)
    (hres : ∀ (b : Nat) (sp : Nat → Bool) (hd : Bool), DataW.TrodAll enc P W' b sp hd f.resultTypes.toList (v.resultList f.resultTypes.size) (s.fn H (ds ++ gs)).results [])
    (hargs : ∀ sp : Nat → Bool, (∀ p ∈ before, sp p.block = true) → DataW.TrodAll enc P W' 0 sp true f.params.toList args.toList (s.fn H (ds ++ gs)).args pa)
    (hvars : ∀ sp : Nat → Bool, (∀ p ∈ before, sp p.block = true) → DataW.TrodVars enc P W' sp s.vars (s.fn H (ds ++ gs)).vars pv)
    (hps : before = pa ++ pv) (hb : Below W.heap.size W W')
    (hok : ∀ (j : Nat) (t : TypeId) (r : Value), f.resultTypes[j]? = some t → (v.resultList f.resultTypes.size)[j]? = some r → Value.okWide P W' .any 0 t r) :
    s.post enc P f apart fresh handsOn again W args v W' := by
  have hlt : ∀ p ∈ before, p.block < W.heap.size := fun p hp => hW.lt p hp
  have hold : ∀ p ∈ before, (fun b => decide (b < W.heap.size)) p.block = true := fun p hp => by simpa using hlt p hp
  refine ⟨ds, gs, before, [], pa, pv, hW, hres _ _ _, hargs _ hold, hvars _ hold, World.keptBut_mono (fun p hp => ⟨hp, ?_⟩) (hb.frame (· ∈ before)), fun _ => ?_⟩
  · rw [hps, List.mem_append] at hp
    exact Or.inr hp
  · obtain ⟨_, _, _, _, _, hz, hn⟩ := hW
    refine ⟨hok, _, _, ([] ++ pa) ++ pv, ⟨[] ++ pa, pv, trodAll_append (hargs _ (fun _ _ => rfl)) (hres _ _ _), hvars _ (fun _ _ => rfl), rfl, ?_, ?_⟩, ?_⟩
    · intro b off hp
      have hin : MemPlace.cell b off ∈ before := by rw [hps]; simpa using hp
      rw [hb.frozen (hlt _ hin)]
      exact hz b off hin
    · intro ha
      have := hn ha
      rw [hps] at this
      simpa using this
    · intro p hp _
      rw [hps]
      simpa using hp

/-- Types of plain data, as a row's parameters have them. -/
def parsOK (P : Program) (n : Nat) (ts : List TypeId) : Bool := ts.all fun t => tyOK P n t && (P.readableRec t && Nat.blt t P.types.size)

theorem contract_of (B : BK H) {n : Nat} {f : FuncId} {fn : Func} {s : ChangeSpec} {F : Summ} {tb : TypeId} (hl : laidOutB P = true) (hp : parsOK P n fn.params.toList = true) (hbody : hasBody P f = true) (hv : s.vars = []) (hr : fn.resultTypes = #[tb]) (hub : P.underlying tb = some .bool)
    (hs : ∀ ds : List (DataW H), ds.length = fn.params.size → s.fn H ds = { results := [.lit (.bool true)], args := ds }) (hF : SumOK P f F)
    {W : World} {base : Nat} {args : Array Value} {ds gs : List (DataW H)} {before : List MemPlace}
    (hlaw : ∀ avs, Given (fn.params.toList.map (shOf P n)) avs (B.all (ds ++ gs)) → F AV avs some = some (.bool true))
    (hval : ∀ (j : Nat) t v, fn.params[j]? = some t → args[j]? = some v → Value.okWide P W .any base t v)
    (hW : DataW.Whole enc P fn.params.toList s.vars false W args.toList ds gs before) :
    Calls P f args W fun e W' => ∃ v, e = .returned v ∧ s.post enc P fn false true false false W args v W' := by
  have hW' := hW
  obtain ⟨p, q, hA, hV, rfl, hfz, hnd⟩ := hW
  rw [hv] at hV
  have hgs : gs = [] ∧ q = [] := by
    cases gs with
    | nil => exact ⟨rfl, hV⟩
    | cons => exact hV.elim
  obtain ⟨rfl, rfl⟩ := hgs
  simp only [parsOK, List.all_eq_true, Bool.and_eq_true] at hp
  obtain ⟨avs, i1, i2, i3⟩ := open_args B fn.params.toList args.toList ds p (fun t ht => (hp t ht).1) (fun j t v h1 h2 => hval j t v (by simpa using h1) (by simpa using h2)) hA
  have hlw := hlaw avs (by simpa using i2)
  have hc := (hF AV W (here W) avs args.toList some _ (fun b hb => hb) i1 hlw).calls hbody
  have hlt : ∀ x ∈ p, x.block < W.heap.size := fun x hx => hW'.lt x (by simpa using hx)
  have hsfn := hs ds (by simpa using i3)
  simp only [Array.toArray_toList] at hc
  refine hc.mono fun e W' he => ?_
  obtain ⟨v, av, S', rfl, hk, hb, _, _, hvr⟩ := he
  cases hk
  have hvv : v = .bool true := hvr.bool_inv
  subst hvv
  refine ⟨_, rfl, post_of_below (pa := p) (pv := []) hW' ?_ ?_ ?_ (by simp) hb ?_⟩
  · intro b sp hd
    rw [List.append_nil, hsfn, hr]
    exact ⟨[], [], ⟨1, by simp [DataW.trod, Value.cells, hub]⟩, rfl, rfl⟩
  · intro sp hsp
    rw [List.append_nil, hsfn]
    exact keep_args hl hb _ _ _ _ (fun t ht => ⟨(hp t ht).2.1, Nat.le_of_ble_eq_true (hp t ht).2.2⟩) hA hlt (fun x hx => hsp x (by simpa using hx))
  · intro sp _
    rw [List.append_nil, hsfn, hv]
    rfl
  · intro j t r h1 h2
    rw [hr] at h1 h2
    cases j with
    | zero =>
      simp [Value.resultList] at h1 h2
      subst h1; subst h2
      simp only [Value.okWide, hub, Cell.okWide, Cell.ok]
    | succ j => simp at h1
end
end Go.Ev
