/-
  The library's functions on bytes: HasSuffix, IndexByte, TrimRight.
-/
import Derived.Test.YtpmlhkoianekfaaGreatDoorEnB
import Derived.RangeFuncIn
import Derived.Test.YtpmlhkoianekfaaGreatDoorEnH
import Derived.Shelf.Bytes.SlTrim

namespace Go.Ev
open Go.RowKit
def fnE : Func := { (default : Func) with results := #[] }
noncomputable def evY (P : Program) (Γ : Env) (K : List (Nat × Loop)) (key : Int) (q : Array Tmp × Code × Code) : SummX := fun ρ avs rows k =>
  match avs, rows with
  | .own p :: xs, .box false (.tup [.int .i64 key'] :: tm) :: rest =>
    if p == PID && (key' == key && Nat.ble rest.length 999999) then
      (St.mk ((q.1.toList.zip xs).foldl (fun t p => t.set p.1 p.2) tm) (zipIds (PID + 1) rest) (List.range' PID (rest.length + 1))).force fun st =>
        evC P Γ K q.2.1 ρ st fun e st1 => match e with
          | .normal => evC P Γ K q.2.2 ρ st1 fun e st2 => match e with
            | .normal => finishX P fnE (rest.length + 1) st2 fun _ prow nrow => k (.bool true) (some (.box false (.tup [.int .i64 key] :: tm)) :: prow.tail) nrow
            | .ret => finishX P fnE (rest.length + 1) st2 fun _ prow nrow => k (.bool false) (some (.box false (.tup [.int .i64 key, .bool true] :: tm)) :: prow.tail) nrow
            | _ => none
          | _ => none
    else none
  | _, _ => none
theorem sets_rel {w : World} {S : Nat → Prop} {β : Bet} : ∀ (ps : List Nat) {xs tm : List AV} {args us : List Value}, VRels w S β xs args → VRels w S β tm us → VRels w S β ((ps.zip xs).foldl (fun t p => t.set p.1 p.2) tm) ((ps.zip args).foldl (fun t p => t.set p.1 p.2) us)
  | [], _, _, _, _, _, h => h
  | p :: ps, [], _, args, _, hx, h => by
    rw [hx.inv_nil]
    exact h
  | p :: ps, x :: xs, tm, args, us, hx, h => by
    obtain ⟨v, vs, rfl, hv, hvs⟩ := hx.inv
    exact sets_rel ps hvs (h.set p hv)
theorem foldl_sets : ∀ (l : List (Nat × Value)) (t : Array Value), (l.foldl (fun t p => t.setIfInBounds p.1 p.2) t).toList = l.foldl (fun t p => t.set p.1 p.2) t.toList
  | [], _ => rfl
  | p :: l, t => by
    rw [List.foldl_cons, List.foldl_cons, foldl_sets l]
    simp
section
variable {P : Program} {Γ : Env} {K : List (Nat × Loop)}
theorem lookup_zip1 {rows : List Row} {x : Row} {id : Nat} {r : Row} (h : lookup (zipIds (PID + 1) rows) id = some r) : id ≠ PID ∧ lookup (zipIds PID (x :: rows)) id = some r := by
  obtain ⟨hle, _⟩ := lookup_zipIds _ _ _ _ h
  have hne : id ≠ PID := by omega
  refine ⟨hne, ?_⟩
  show lookup ((PID, x) :: zipIds (PID + 1) rows) id = some r
  simp only [lookup]
  rw [if_neg (fun e => hne e.symm)]
  exact h
theorem yok_core (hΓ : GOK P Γ) (hD : DrawOK P Γ) (hr : Γ.rng = []) {key : Int} {q : Array Tmp × Code × Code} (hq : q = loopCode key) (hKa : KOK P Γ K q.2.1) (hKb : KOK P Γ K q.2.2)
    {ρ : Type} {w : World} {S B : Nat → Prop} {β : Bet} {og : Nat → Option Nat} {avs tm : List AV} {rows : List Row} {args : List Value} {k : AV → List (Option Row) → List Row → Option ρ} {r : ρ} {l : Nat} {r0 : Go.Loop} {us : List Value}
    (hH : Heap w S B β og (zipIds PID (.box false (.tup [.int .i64 key] :: tm) :: rows))) (hSB : (∀ b, S b → B b) ∧ Glb B w) (hdom : ∀ id x, β id = some x → PID ≤ id ∧ id < PID + (rows.length + 1)) (hv : VRels w S β avs args)
    (hbl : β PID = some (.func (.yield l) #[] #[], 1)) (hol : og PID = some l) (hhl : w.heap[l]? = some (.loop r0)) (hst : r0.state = .ready) (_hpd : r0.pending = none) (hlc : (r0.params, r0.assign, r0.body) = loopCode key) (htm : r0.tmps.toList = us) (htv : VRels w S β tm us) (hsm : rows.length ≤ 999999)
    (he : (evC P Γ K q.2.1 ρ (St.mk ((q.1.toList.zip avs).foldl (fun t p => t.set p.1 p.2) tm) (zipIds (PID + 1) rows) (List.range' PID (rows.length + 1))) fun e st1 => match e with
          | .normal => evC P Γ K q.2.2 ρ st1 fun e st2 => match e with
            | .normal => finishX P fnE (rows.length + 1) st2 fun _ prow nrow => k (.bool true) (some (.box false (.tup [.int .i64 key] :: tm)) :: prow.tail) nrow
            | .ret => finishX P fnE (rows.length + 1) st2 fun _ prow nrow => k (.bool false) (some (.box false (.tup [.int .i64 key, .bool true] :: tm)) :: prow.tail) nrow
            | _ => none
          | _ => none) = some r) :
    RoundIn Fence.wide 0 P l r0.fn ((r0.params.zip args.toArray).foldl (fun t (p, v) => t.setIfInBounds p v) r0.tmps) r0.assign r0.body w fun e w' => ∃ u v prow nrow S' β' og', e = .returned u ∧ k v prow nrow = some r ∧ After w S B β prow nrow v u w' S' β' og' := by
  obtain ⟨hSB, hG⟩ := hSB
  have hqq : q = (r0.params, r0.assign, r0.body) := hq.trans hlc.symm
  subst hqq
  have hlw : l < w.heap.size := hH.lt PID l hol
  have hrow0 := hH.row PID (.box false (.tup [.int .i64 key] :: tm)) (by simp [zipIds, lookup])
  have hSl : ¬ S l := hrow0.free rfl l hol
  have hBl : ¬ B l := hrow0.place.2 l hol
  have hPR : PID < RID := by decide
  obtain ⟨B2, hB2⟩ : ∃ B2 : Ctx, B2 = ⟨fun b => B b ∨ b = l, β, []⟩ := ⟨_, rfl⟩
  have hB2l : B2 l := by rw [hB2]; exact .inr rfl
  have hB2B : ∀ b, B b → B2 b := fun b hb => by rw [hB2]; exact .inl hb
  have hzip : ((r0.params.zip args.toArray).foldl (fun t (p, v) => t.setIfInBounds p v) r0.tmps).toList = (r0.params.toList.zip args).foldl (fun t p => t.set p.1 p.2) us := by
    rw [← htm, ← foldl_sets, ← Array.foldl_toList]
    simp
  have hRel : Rel w S B2 β (fun id => if id = PID then none else og id) (St.mk ((r0.params.toList.zip avs).foldl (fun t p => t.set p.1 p.2) tm) (zipIds (PID + 1) rows) (List.range' PID (rows.length + 1))) { tmps := (r0.params.zip args.toArray).foldl (fun t (p, v) => t.setIfInBounds p v) r0.tmps, defers := [] } := by
    refine ⟨?_, by rw [hB2], fun id x hx => ?_, fun id id' g hg hg' => ?_, fun id g hg => ?_, fun id x hx => ?_, hH.one, hH.Slt, fun b hb => ?_, fun id x _ hx => by rw [hB2]; exact hx⟩
    · show VRels w S β _ ((r0.params.zip args.toArray).foldl (fun t (p, v) => t.setIfInBounds p v) r0.tmps).toList
      rw [hzip]
      exact sets_rel _ hv htv
    · obtain ⟨hne, hx⟩ := lookup_zip1 (x := .box false (.tup [.int .i64 key] :: tm)) hx
      rw [if_neg hne]
      refine (hH.row id x hx).monoB fun g hg hn hb => ?_
      rw [hB2] at hb
      rcases hb with hb | hb
      · exact hn hb
      · subst hb; exact hne (hH.inj id PID _ hg hol)
    · by_cases e : id = PID
      · rw [if_pos e] at hg; cases hg
      · by_cases e' : id' = PID
        · rw [if_pos e'] at hg'; cases hg'
        · rw [if_neg e] at hg; rw [if_neg e'] at hg'; exact hH.inj id id' g hg hg'
    · by_cases e : id = PID
      · rw [if_pos e] at hg; cases hg
      · rw [if_neg e] at hg; exact hH.lt id g hg
    · obtain ⟨h1, h2⟩ := hdom id x hx
      show id ∈ List.range' PID (rows.length + 1)
      rw [List.mem_range'_1]
      exact ⟨h1, h2⟩
    · rw [hB2] at hb
      rcases hb with hb | hb
      · exact hH.Ble b hb
      · omega
  have hG2 : Glb B2 w := hG.mono hB2B
  have hX : RelX w S B2 (St.mk ((r0.params.toList.zip avs).foldl (fun t p => t.set p.1 p.2) tm) (zipIds (PID + 1) rows) (List.range' PID (rows.length + 1))) { tmps := (r0.params.zip args.toArray).foldl (fun t (p, v) => t.setIfInBounds p v) r0.tmps, defers := [] } w :=
    ⟨S, β, _, hRel, ⟨KeptG.refl hG2, fun _ h => .inl h, fun _ h => h⟩⟩
  refine roundIn_of_wpIn (F := Fence.wide) (n := 0) trivial ?_
  refine evC_sound (R := some l) hΓ hD r0.assign hKa (RngOK.no hr _) ρ _ _ r _ w _ he hX.e fun e st1 a1 w1 he1 hx1 => ?_
  cases e with
  | ret => cases he1
  | exit i => cases he1
  | normal =>
  obtain ⟨wa, Sa, Ba, hEa, S1, β1, og1, hR1, hO1⟩ := hx1
  have hBal : Ba l := hEa.up l hB2l
  have hw1l : w1.heap[l]? = some (.loop r0) := (hO1.bel.block l hBal).trans ((hEa.kept.block l hB2l).trans hhl)
  have hS1l : ¬ S1 l := fun hs => (hO1.sin l hs).elim (fun h => (hEa.sin l h).elim hSl fun h => h hB2l) fun h => h hBal
  have hk1 : Kept B w w1 := Kept.trans (b := wa) ⟨hEa.kept.os, hEa.kept.tape, hEa.kept.output, hEa.kept.size, fun b hb => hEa.kept.block b (hB2B b hb)⟩ ⟨hO1.bel.os, hO1.bel.tape, hO1.bel.output, hO1.bel.size, fun b hb => hO1.bel.block b (hEa.up b (hB2B b hb))⟩
  have hk2 : Kept B w (w1.putObj l (.loop { r0 with state := .busy })) := hk1.putBlock _ hBl
  have hR2 : Rel (w1.putObj l (.loop { r0 with state := .busy })) S1 Ba β1 og1 st1 a1 := hR1.putBlock _ (fun id x hx hg => (hR1.row id x hx).place.2 l hg hBal) hS1l
  have hGa : Glb Ba (w1.putObj l (.loop { r0 with state := .busy })) := fun w' hk => hG w' (hk2.trans ⟨hk.os, hk.tape, hk.output, hk.size, fun b hb => hk.block b (hEa.up b (hB2B b hb))⟩)
  have hX2 : RelX (w1.putObj l (.loop { r0 with state := .busy })) S1 Ba st1 a1 (w1.putObj l (.loop { r0 with state := .busy })) := ⟨S1, β1, og1, hR2, ⟨KeptG.refl hGa, fun _ h => .inl h, fun _ h => h⟩⟩
  refine ⟨_, run_beginRound hw1l hst, ?_⟩
  obtain ⟨w2, hw2⟩ : ∃ w2, w2 = w1.putObj l (.loop { r0 with state := .busy }) := ⟨_, rfl⟩
  rw [← hw2] at hk2 hR2 hGa hX2 ⊢
  refine evC_sound (R := some l) hΓ hD r0.body hKb (RngOK.no hr _) ρ _ _ r _ w2 _ he1 hX2.e fun e st2 a2 w3 he2 hx2 => ?_
  suffices core : ∀ (d : Bool), (finishX P fnE (rows.length + 1) st2 fun _ prow nrow => k (.bool !d) (some (.box false (.tup (recA key d) :: tm)) :: prow.tail) nrow) = some r →
      ∃ v w', (Instr.endRound l (bif d then some .ret else none)).run P w3 = .ok v w' ∧ (∃ u v1 prow nrow S' β' og', (Ending.returned v) = .returned u ∧ k v1 prow nrow = some r ∧ After w S B β prow nrow v1 u w' S' β' og') by
    cases e with
    | exit i => cases he2
    | normal => exact core false he2
    | ret => exact core true he2
  clear he2
  intro d he2
  obtain ⟨wb, Sb, Bb, hEb, S3, β3, og3, hR3, hO3⟩ := hx2
  have hBbl : Bb l := hEb.up l hBal
  have hl1 : l < w1.heap.size := (Array.getElem?_eq_some_iff.1 hw1l).1
  have hw2l : w2.heap[l]? = some (.loop { r0 with state := .busy }) := by rw [hw2]; exact World.putObj_heap_same hl1
  have hw3l : w3.heap[l]? = some (.loop { r0 with state := .busy }) := (hO3.bel.block l hBbl).trans ((hEb.kept.block l hBal).trans hw2l)
  have hl3 : l < w3.heap.size := (Array.getElem?_eq_some_iff.1 hw3l).1
  have hbet : Bb.bet = β := by rw [hEb.bet, hEa.bet, hB2]
  have hdomR : ∀ id x, Bb.bet id = some x → id < RID := fun id x hx => by
    rw [hbet] at hx
    have := (hdom id x hx).2
    have : PID + 1000000 < RID := by decide
    omega
  obtain ⟨u, hrun2, v, prow, nrow, S', β', og', hk', hA⟩ := finishX_sound (w := w3) (np := rows.length + 1) ⟨S3, β3, og3, hR3, hO3⟩ hdomR he2
  refine ⟨_, _, run_endRound (bif d then some .ret else none) hw3l, .bool !d, .bool !d, _, _, S', fun id => if id < RID then β id else β' id, fun id => @ite _ (id = PID) _ (some l) (@ite _ ((∃ j x, id = PID + j ∧ prow[j]? = some (some x)) ∨ ∃ j x, id = RID + j ∧ nrow[j]? = some x) (Classical.propDecidable _) (og' id) none), (by cases d <;> rfl), hk', ?_⟩
  obtain ⟨w4, hw4⟩ : ∃ w4, w4 = w3.putObj l (.loop { ({ r0 with state := .busy } : Go.Loop) with state := (bif d then .done else .ready), pending := (bif d then some .ret else none) }) := ⟨_, rfl⟩
  have hw4l : w4.heap[l]? = some (.loop { ({ r0 with state := .busy } : Go.Loop) with state := (bif d then .done else .ready), pending := (bif d then some .ret else none) }) := by rw [hw4]; exact World.putObj_heap_same hl3
  have hoth : ∀ b, b ≠ l → w4.heap[b]? = w3.heap[b]? := fun b hb => by rw [hw4]; exact World.putObj_heap_other hb
  have hsz4 : w4.heap.size = w3.heap.size := by rw [hw4]; exact World.putObj_size
  have hup : ∀ b, B b → Bb b := fun b hb => hEb.up b (hEa.up b (hB2B b hb))
  have hk3 : Kept B w w3 := hk2.trans (Kept.trans (b := wb) ⟨hEb.kept.os, hEb.kept.tape, hEb.kept.output, hEb.kept.size, fun b hb => hEb.kept.block b (hEa.up b (hB2B b hb))⟩ ⟨hA.kept.os, hA.kept.tape, hA.kept.output, hA.kept.size, fun b hb => hA.kept.block b (hup b hb)⟩)
  have hk4 : Kept B w w4 := by rw [hw4]; exact hk3.putBlock _ hBl
  have hsubA : ∀ b, S b → S' b := fun b hb => hA.sub b (hEb.sub b (hO1.sub b (hEa.sub b hb)))
  have hsinA : ∀ b, S' b → S b ∨ ¬ B2 b := fun b hb => (hA.sin b hb).elim (fun h => (hEb.sin b h).elim (fun h => (hO1.sin b h).elim (hEa.sin b) fun h => .inr fun h' => h (hEa.up b h')) fun h => .inr fun h' => h (hEa.up b h')) fun h => .inr fun h' => h (hEb.up b (hEa.up b h'))
  have hS'l : ¬ S' l := fun hs => (hsinA l hs).elim hSl fun h => h hB2l
  have hβ1 : ∀ id x, β' id = some x → (if id < RID then β id else β' id) = some x := fun id x hx => by
    by_cases hlt : id < RID
    · rw [if_pos hlt, ← hbet]; exact hA.bet id x hlt hx
    · rw [if_neg hlt]; exact hx
  have hβ2 : ∀ id x, β id = some x → (if id < RID then β id else β' id) = some x := fun id x hx => by
    have h1 := (hdom id x hx).2
    have h2 : PID + 1000000 < RID := by decide
    rw [if_pos (by omega)]; exact hx
  have hwS : ∀ b, S b → w4.heap[b]? = w.heap[b]? := fun b hb => hk4.block b (hSB b hb)
  have hwS' : ∀ b, S' b → w4.heap[b]? = w3.heap[b]? := fun b hb => hoth b fun e => hS'l (by rw [← e]; exact hb)
  have hplP : ∀ j x, prow[j]? = some (some x) → ∀ g, og' (PID + j) = some g → g ≠ l := fun j x hx g hg e => (hA.prow j x hx).place.2 g hg (by rw [e]; exact hBbl)
  have hplN : ∀ j x, nrow[j]? = some x → ∀ g, og' (RID + j) = some g → g ≠ l := fun j x hx g hg e => (hA.nrow j x hx).place.2 g hg (by rw [e]; exact hBbl)
  obtain ⟨og2, hog2⟩ : ∃ og2 : Nat → Option Nat, og2 = fun id => @ite _ (id = PID) _ (some l) (@ite _ ((∃ j x, id = PID + j ∧ prow[j]? = some (some x)) ∨ ∃ j x, id = RID + j ∧ nrow[j]? = some x) (Classical.propDecidable _) (og' id) none) := ⟨_, rfl⟩
  rw [← hog2]
  suffices hfin : After w S B β (some (.box false (.tup (recA key d) :: tm)) :: prow.tail) nrow (.bool !d) (.bool !d) w4 S' (fun id => if id < RID then β id else β' id) og2 by
    rw [hw4] at hfin
    cases d <;> exact hfin
  have hogP : og2 PID = some l := by rw [hog2]; simp
  have hogp : ∀ j x, prow[j + 1]? = some (some x) → og2 (PID + (j + 1)) = og' (PID + (j + 1)) := fun j x hx => by
    rw [hog2]
    show @ite _ (PID + (j + 1) = PID) _ _ _ = _
    rw [if_neg (by omega), if_pos (.inl ⟨j + 1, x, rfl, hx⟩)]
  have hogn : ∀ j x, nrow[j]? = some x → og2 (RID + j) = og' (RID + j) := fun j x hx => by
    rw [hog2]
    show @ite _ (RID + j = PID) _ _ _ = _
    rw [if_neg (by omega), if_pos (.inr ⟨j, x, rfl, hx⟩)]
  have hcl : ∀ id g, og2 id = some g → (id = PID ∧ g = l) ∨ (id ≠ PID ∧ g ≠ l ∧ og' id = some g) := fun id g hg => by
    rw [hog2] at hg
    by_cases e : id = PID
    · have hg : @ite _ (id = PID) _ (some l) _ = some g := hg
      rw [if_pos e] at hg
      cases hg
      exact .inl ⟨e, rfl⟩
    · have hg : @ite _ (id = PID) _ (some l) _ = some g := hg
      rw [if_neg e] at hg
      split at hg
      · rename_i hc
        refine .inr ⟨e, ?_, hg⟩
        rcases hc with ⟨j, x, rfl, hx⟩ | ⟨j, x, rfl, hx⟩
        · exact hplP j x hx g hg
        · exact hplN j x hx g hg
      · cases hg
  refine ⟨hk4, hsubA, fun b hb => (hsinA b hb).imp id fun h hb => h (hB2B b hb), .bool _ _, fun j x hx => ?_, fun j x hx => ?_, fun id id' g hg hg' => ?_, fun id g hg => ?_, fun id x hx => ?_, fun b hb => by rw [hsz4]; exact hA.Slt b hb, fun id x hlt hx => by have hx : (if id < RID then β id else β' id) = some x := hx; rw [if_pos hlt] at hx; exact hx⟩
  · cases j with
    | zero =>
      simp only [List.getElem?_cons_zero, Option.some.injEq] at hx
      subst hx
      refine ⟨l, .tuple (recV key d).toArray :: us, .func (.yield l) #[] #[], hogP, hβ2 _ _ hbl, .inr (.inl ⟨_, key, us, d, hw4l, rfl, rfl, hlc, rfl, htm, rfl⟩), VRels.cons ?_ (htv.mono hsubA hwS hβ2), fun _ => hS'l, (fun h => by cases h), hBl⟩
      exact .tup _ (recA key d) (recV key d) (by cases d <;> rfl) fun j c u hc hu => by
        cases d with
        | false =>
          cases j with
          | zero => simp [recA, recV] at hc hu; subst hc; subst hu; exact .int _ _ _
          | succ j => simp [recA] at hc
        | true =>
          match j, hc, hu with
          | 0, hc, hu => simp [recA, recV] at hc hu; subst hc; subst hu; exact .int _ _ _
          | 1, hc, hu => simp [recA, recV] at hc hu; subst hc; subst hu; exact .bool _ _
          | j + 2, hc, _ => simp [recA] at hc
    | succ j =>
      have hx' : prow[j + 1]? = some (some x) := by
        rw [List.getElem?_cons_succ, List.getElem?_tail] at hx
        exact hx
      rw [hogp j x hx']
      exact ((hA.prow (j + 1) x hx').monoB (fun g _ hn hb => hn (hup g hb))).keep hβ1 (fun _ h => h) (fun _ _ h => h) hwS' (fun g hg => hoth g (hplP (j + 1) x hx' g hg))
  · rw [hogn j x hx]
    exact ((hA.nrow j x hx).monoB (fun g _ hn hb => hn (hup g hb))).keep hβ1 (fun _ h => h) (fun _ _ h => h) hwS' (fun g hg => hoth g (hplN j x hx g hg))
  · rcases hcl id g hg with ⟨rfl, rfl⟩ | ⟨h1, h2, h3⟩ <;> rcases hcl id' g hg' with ⟨rfl, h5⟩ | ⟨h4, h5, h6⟩
    · rfl
    · exact absurd rfl h5
    · exact absurd h5 h2
    · exact hA.inj id id' g h3 h6
  · rw [hsz4]
    rcases hcl id g hg with ⟨_, rfl⟩ | ⟨_, _, h3⟩
    · exact hl3
    · exact hA.lt id g h3
  · have hx : (if id < RID then β id else β' id) = some x := hx
    split at hx
    · exact hH.one id x hx
    · exact hA.one id x hx
theorem yok_of (hΓ : GOK P Γ) (hD : DrawOK P Γ) (hr : Γ.rng = []) {key : Int} {q : Array Tmp × Code × Code} (hq : q = loopCode key) (hKa : KOK P Γ K q.2.1) (hKb : KOK P Γ K q.2.2) {F : SummX}
    (hF : ∀ ρ avs rows k r, F ρ avs rows k = some r → evY P Γ K key q ρ avs rows k = some r) : YOK P key F := by
  intro ρ w S B β og avs tm rows args k r l r0 us hH hSB hdom hv hbl hol hhl hst hpd hlc htm htv hrun
  obtain ⟨hSB, hG⟩ := hSB
  have he := hF _ _ _ _ _ hrun
  unfold evY at he
  simp only [beq_self_eq_true, Bool.true_and] at he
  split at he
  · rename_i hsm
    have hsm := Nat.le_of_ble_eq_true hsm
    rw [St.force_eq] at he
    exact yok_core hΓ hD hr hq hKa hKb hH ⟨hSB, hG⟩ hdom hv hbl hol hhl hst hpd hlc htm htv hsm he
  · cases he
end
end Go.Ev


namespace Go.Proofs.YtpmlhkoianekfaaGreatDoor
open Go.Ev
noncomputable def GY : Env := { pure := [(85, ofT F85), (87, ofT F87)], conv := true }
theorem gY : GOK Tryz.prog GY := GOK.flags (GOK.also (GOK.also g0 ok87) ok85)
def rnd (o : List AV × Int) (line : List AV) : List AV × Int := bif sqF (strAV line) == [] then (o.1, o.2 + 1) else (o.1 ++ bytesAV (Lib.repeatL [13, 10] o.2.toNat ++ sqF (strAV line) ++ [13, 10]), 0)
def FY : List AV → List Row → Tr XOut
  | [.own p, .slv (.int .u8) line], [.box false [.tup [.int .i64 key], .slv (.int .u8) bs, .undef, .slz (.int .u8), .ptr 1125899906842625 0, .ptr 1125899906842627 0, .undef, .undef, .slv (.int .u8) bs', .unk, .unk, .fn 180 [.ptr 1125899906842628 0, .ptr 1125899906842629 0, .ptr 1125899906842630 0], .undef, .undef, .undef, .undef, .undef, .undef, .undef, .undef, .undef, .undef, .undef, .undef, .undef, .undef, .undef, .undef],
      .box false [.own 1125899906842626], .arr false (.int .u8) e5 out none, .box false [.int .i64 e], .box false [.slv (.int .u8) sep], .box false [.slv (.int .u8) cs], .box false [.int .i64 z]] =>
    .gd (p == PID && (key == 0 && decide (e5 = 5 ∧ 0 ≤ e ∧ out.length + 2 * e.toNat + line.length ≤ 10000000000))) (.br (sqF (strAV line) == [])
      (.leaf (.bool true, [some (.box false [.tup [.int .i64 key], .slv (.int .u8) bs, .undef, .slz (.int .u8), .ptr 1125899906842625 0, .ptr 1125899906842627 0, .undef, .undef, .slv (.int .u8) bs', .unk, .unk, .fn 180 [.ptr 1125899906842628 0, .ptr 1125899906842629 0, .ptr 1125899906842630 0], .undef, .undef, .undef, .undef, .undef, .undef, .undef, .undef, .undef, .undef, .undef, .undef, .undef, .undef, .undef, .undef]),
        some (.box false [.own 1125899906842626]), some (.arr false (.int .u8) e5 out none), some (.box false [.int .i64 (e + 1)]), some (.box false [.slv (.int .u8) sep]), some (.box false [.slv (.int .u8) cs]), some (.box false [.int .i64 z])], []))
      (.leaf (.bool true, [some (.box false [.tup [.int .i64 key], .slv (.int .u8) bs, .undef, .slz (.int .u8), .ptr 1125899906842625 0, .ptr 1125899906842627 0, .undef, .undef, .slv (.int .u8) bs', .unk, .unk, .fn 180 [.ptr 1125899906842628 0, .ptr 1125899906842629 0, .ptr 1125899906842630 0], .undef, .undef, .undef, .undef, .undef, .undef, .undef, .undef, .undef, .undef, .undef, .undef, .undef, .undef, .undef, .undef]),
        some (.box false [.own RID]), none, some (.box false [.int .i64 0]), some (.box false [.slv (.int .u8) sep]), some (.box false [.slv (.int .u8) cs]), some (.box false [.int .i64 z])], [.arr false (.int .u8) 5 (out ++ bytesAV (Lib.repeatL [13, 10] e.toNat ++ sqF (strAV line) ++ [13, 10])) none])))
  | _, _ => .no
theorem strAV_len (l : List AV) : (strAV l).length = l.length := by unfold strAV; rw [List.length_map]
theorem yokY : YOK Tryz.prog 0 (ofX FY) ∧ XNat (ofX FY) := by
  refine ⟨yok_of gY (drawOK gY (by kernel_rfl)) rfl (q := loopCode 0) rfl (KOK.nil (by kernel_rfl)) (KOK.nil (by kernel_rfl)) (K := []) fun ρ avs rows k r h => ?_, xnat_ofX FY⟩
  have h' : (FY avs rows).run (fun q => k q.1 q.2.1 q.2.2) = some r := h
  unfold FY at h'
  split at h'
  · rename_i p line key bs bs' e5 out e sep cs z
    obtain ⟨hc, hk⟩ := gd_some h'
    simp only [Bool.and_eq_true] at hc
    obtain ⟨hp, hkey, hb0⟩ := hc
    obtain rfl : p = PID := by simpa using hp
    obtain rfl : key = 0 := by simpa using hkey
    obtain ⟨rfl, he, hb⟩ := of_decide_eq_true hb0
    clear hb0
    refine Eq.trans (b := have c80 := (Row.box false [AV.tup [AV.int IntKind.i64 0], AV.slv (Sh.int IntKind.u8) bs, AV.undef, AV.slz (Sh.int IntKind.u8), AV.ptr 1125899906842625 0, AV.ptr 1125899906842627 0, AV.undef, AV.undef, AV.slv (Sh.int IntKind.u8) bs', AV.unk, AV.unk, AV.fn (180 : Nat) [AV.ptr 1125899906842628 0, AV.ptr 1125899906842629 0, AV.ptr 1125899906842630 0], AV.undef, AV.undef, AV.undef, AV.undef, AV.undef, AV.undef, AV.undef, AV.undef, AV.undef, AV.undef, AV.undef, AV.undef, AV.undef, AV.undef, AV.undef, AV.undef]); have c81 := ([13, 10] : List UInt8); bif decide ((strAV line).length ≤ (100000000000 : Nat)) then bif sqF (strAV line) == ([] : List UInt8) then k (AV.bool true) [some c80, some (Row.box false [AV.own 1125899906842626]), some (Row.arr false (Sh.int IntKind.u8) (5 : Nat) out none), some (Row.box false [AV.int IntKind.i64 (IntKind.i64.wrap (e + (1 : Int)))]), some (Row.box false [AV.slv (Sh.int IntKind.u8) sep]), some (Row.box false [AV.slv (Sh.int IntKind.u8) cs]), some (Row.box false [AV.int IntKind.i64 z])] [] else bif decide ((0 : Int) ≤ e) && (decide (e ≤ (9223372036854775807 : Int)) && decide (c81.length * e.toNat ≤ (140737488355328 : Nat))) then bif lenB ((Lib.repeatL c81 e.toNat).length + (sqF (strAV line)).length) then bif lenB ((Lib.repeatL c81 e.toNat ++ sqF (strAV line)).length + c81.length) then bif roomB (out.length + (bytesAV (Lib.repeatL c81 e.toNat ++ sqF (strAV line) ++ c81)).length) (Tryz.prog.bytesOf 5) then k (AV.bool true) [some c80, some (Row.box false [AV.own 2251799813685248]), none, some (Row.box false [AV.int IntKind.i64 0]), some (Row.box false [AV.slv (Sh.int IntKind.u8) sep]), some (Row.box false [AV.slv (Sh.int IntKind.u8) cs]), some (Row.box false [AV.int IntKind.i64 z])] [Row.arr false (Sh.int IntKind.u8) (5 : Nat) (out ++ bytesAV (Lib.repeatL c81 e.toNat ++ sqF (strAV line) ++ c81)) none] else none else none else none else none else none) (by kernel_rfl) ?_
    conv => zeta
    rw [← hk]
    have hq := sqF_len (strAV line)
    have hl := strAV_len line
    have hr := Lib.repeatL_length [13, 10] e.toNat
    have h2 : ([13, 10] : List UInt8).length = 2 := rfl
    rw [h2] at hr
    have w1 : IntKind.i64.wrap (e + 1) = e + 1 := wrap_mid _ (by omega) (by omega)
    have ha : (Lib.repeatL [13, 10] e.toNat ++ sqF (strAV line)).length = e.toNat * 2 + (sqF (strAV line)).length := by rw [List.length_append, hr]
    have hb3 : (bytesAV (Lib.repeatL [13, 10] e.toNat ++ sqF (strAV line) ++ [13, 10])).length = e.toNat * 2 + (sqF (strAV line)).length + 2 := by rw [bytesAV_length, List.length_append, ha, h2]
    rw [w1]
    refine Eq.trans (cond_t (decide_eq_true (by omega))) ?_
    cases sqF (strAV line) == []
    · refine Eq.trans (cond_f rfl) (Eq.trans (cond_t (and_t (decide_eq_true he) (and_t (decide_eq_true (by omega)) (decide_eq_true (by rw [h2]; omega))))) (Eq.trans (cond_t (decide_eq_true (by rw [hr]; omega))) (Eq.trans (cond_t (decide_eq_true (by rw [ha, h2]; omega))) (Eq.trans (cond_t (room5 (by rw [hb3]; omega))) rfl))))
    · rfl
  · cases h'
end Go.Proofs.YtpmlhkoianekfaaGreatDoor


namespace Go.Proofs.YtpmlhkoianekfaaGreatDoor
open Go.Ev
def cbi (cs : List AV) : Int := Lib.index (strAV cs) [13, 10]
def cbL : Nat → List AV → List AV × Int → List AV × List AV × Int
  | 0, cs, o => (cs, o)
  | f + 1, cs, o => bif decide (cbi cs < 0) then (cs, o) else cbL f (cs.drop ((cbi cs).toNat + 2)) (rnd o (cs.take (cbi cs).toNat))
theorem cbL_step (f : Nat) (cs : List AV) (o : List AV × Int) : cbL (f + 1) cs o = bif decide (cbi cs < 0) then (cs, o) else cbL f (cs.drop ((cbi cs).toNat + 2)) (rnd o (cs.take (cbi cs).toNat)) := rfl
theorem cbi_room {cs : List AV} (h : 0 ≤ cbi cs) : (cbi cs).toNat + 2 ≤ cs.length := by
  have := Lib.index_room (strAV cs) [13, 10] h
  rw [strAV_len] at this
  have h2 : ([13, 10] : List UInt8).length = 2 := rfl
  rw [h2] at this
  unfold cbi at h ⊢
  omega
theorem cbL_fuel : ∀ (f g : Nat) (cs : List AV) (o : List AV × Int), cs.length ≤ f → cs.length ≤ g → cbL f cs o = cbL g cs o
  | 0, g, cs, o, hf, _ => by
    obtain rfl : cs = [] := List.eq_nil_of_length_eq_zero (by omega)
    cases g <;> rfl
  | f + 1, 0, cs, o, _, hg => by
    obtain rfl : cs = [] := List.eq_nil_of_length_eq_zero (by omega)
    rfl
  | f + 1, g + 1, cs, o, hf, hg => by
    rw [cbL_step, cbL_step]
    by_cases h : cbi cs < 0
    · rw [decide_eq_true h]; rfl
    · have := cbi_room (cs := cs) (by omega)
      rw [cbL_fuel f g _ _ (by rw [List.length_drop]; omega) (by rw [List.length_drop]; omega)]
noncomputable def G180 : Env := { pure := [(182, ofT F182)], yld := some (0, 1, ofX FY) }
theorem g180 : GOK Tryz.prog G180 := GOK.yields (GOK.also g0 ok182) (by kernel_rfl) yokY
noncomputable def b180 : Code := ((Tryz.f180.body.map loopsOf).getD []).headD .skip
noncomputable def c180 : Code := (((Tryz.f180.body.map loopsOf).getD []).tail).headD .skip
def l180b : Ev.Loop := ⟨{ len := 63, slots := [0, 1, 2, 3] }, ofL fun _ _ => .no⟩
def L180 : List AV → List (Option Row) → Tr LOut
  | [.own 1125899906842624, .ptr 1125899906842627 0, .ptr 1125899906842628 0, .ptr 1125899906842629 0], [some (.box false [.tup [.int .i64 0], .slv (.int .u8) bs, .undef, .slz (.int .u8), .ptr 1125899906842625 0, .ptr 1125899906842626 0, .undef, .undef, .slv (.int .u8) bs', .unk, .unk, .fn 180 [.ptr 1125899906842627 0, .ptr 1125899906842628 0, .ptr 1125899906842629 0], .undef, .undef, .undef, .undef, .undef, .undef, .undef, .undef, .undef, .undef, .undef, .undef, .undef, .undef, .undef, .undef]), some (.box false [.own 901]), some (.box false [.int .i64 e]), some (.box false [.slv (.int .u8) [.int .u8 13, .int .u8 10]]), some (.box false [.slv (.int .u8) cs]), some (.box false [.int .i64 0]), some (.arr false (.int .u8) e5 out none)] =>
    .gd (decide (e5 = 5 ∧ 0 ≤ e ∧ out.length + 2 * e.toNat + 3 * cs.length ≤ 1000000) && cs.all bE)
      (.leaf (.exit 2, [.own 1125899906842624, .ptr 1125899906842627 0, .ptr 1125899906842628 0, .ptr 1125899906842629 0], [some (.box false [.tup [.int .i64 0], .slv (.int .u8) bs, .undef, .slz (.int .u8), .ptr 1125899906842625 0, .ptr 1125899906842626 0, .undef, .undef, .slv (.int .u8) bs', .unk, .unk, .fn 180 [.ptr 1125899906842627 0, .ptr 1125899906842628 0, .ptr 1125899906842629 0], .undef, .undef, .undef, .undef, .undef, .undef, .undef, .undef, .undef, .undef, .undef, .undef, .undef, .undef, .undef, .undef]), some (.box false [.own 901]), some (.box false [.int .i64 (cbL cs.length cs (out, e)).2.2]), some (.box false [.slv (.int .u8) [.int .u8 13, .int .u8 10]]), some (.box false [.slv (.int .u8) (cbL cs.length cs (out, e)).1]), some (.box false [.int .i64 0]), some (.arr false (.int .u8) e5 (cbL cs.length cs (out, e)).2.1 none)]))
  | _, _ => .no
def l180 : Ev.Loop := ⟨{ len := 63, slots := [0, 1, 2, 3], rows := [1125899906842624, 1125899906842625, 1125899906842626, 1125899906842627, 1125899906842628, 1125899906842629, 901], cells := [(1125899906842625, 0, 901, 5)] }, ofL L180⟩
def μ180 (_ : List AV) (rs : List (Option Row)) : Nat := match rs with
  | [_, _, _, _, some (.box _ [.slv _ cs]), _, _] => cs.length
  | _ => 0
theorem loop180b (K : List (Nat × Ev.Loop)) : LoopOK Tryz.prog G180 K b180 l180b := by
  refine loopOK_of g180.natOK rfl (KOK.nil (by kernel_rfl)) (fun _ _ => 0) (fun ρ vs rs k r h => ?_) (fun _ vs rs k => rfl)
  cases h
theorem loop180 : LoopOK Tryz.prog G180 [(1, l180b), (5, l180)] c180 l180 := by
  refine loopT g180.natOK rfl (KOK.nil (by kernel_rfl)) μ180 (fun ρ vs rs k r h => ?_)
  unfold L180 at h
  split at h
  · rename_i bs bs' e cs e5 out
    obtain ⟨hc, hk⟩ := gd_some h
    simp only [Bool.and_eq_true] at hc
    obtain ⟨hb0, hall⟩ := hc
    obtain ⟨rfl, he, hb⟩ := of_decide_eq_true hb0
    clear hb0
    refine Eq.trans (b := have c82 := (Row.box false [AV.tup [AV.int IntKind.i64 0], AV.slv (Sh.int IntKind.u8) bs, AV.undef, AV.slz (Sh.int IntKind.u8), AV.ptr 1125899906842625 0, AV.ptr 1125899906842626 0, AV.undef, AV.undef, AV.slv (Sh.int IntKind.u8) bs', AV.unk, AV.unk, AV.fn (180 : Nat) [AV.ptr 1125899906842627 0, AV.ptr 1125899906842628 0, AV.ptr 1125899906842629 0], AV.undef, AV.undef, AV.undef, AV.undef, AV.undef, AV.undef, AV.undef, AV.undef, AV.undef, AV.undef, AV.undef, AV.undef, AV.undef, AV.undef, AV.undef, AV.undef]); have c83 := [AV.int IntKind.u8 13, AV.int IntKind.u8 10]; have c80 := (List.take ((↑cs.length : Int).toNat - (IntKind.i64.wrap (Lib.index (strAV cs) (strAV c83) + (↑c83.length : Int))).toNat) (List.drop (IntKind.i64.wrap (Lib.index (strAV cs) (strAV c83) + (↑c83.length : Int))).toNat cs)); have c81 := (List.take ((IntKind.i64.wrap (Lib.index (strAV cs) (strAV c83) + (0 : Int))).toNat - Int.toNat (0 : Int)) (List.drop (0 : Nat) cs)); have c84 := (Lib.repeatL [(13 : UInt8), (10 : UInt8)] e.toNat ++ sqF (strAV (List.take (↑c81.length : Int).toNat c81)) ++ [(13 : UInt8), (10 : UInt8)]); have c85 := [AV.own 1125899906842624, AV.ptr 1125899906842627 0, AV.ptr 1125899906842628 0, AV.ptr 1125899906842629 0]; bif decide (cs.length < (4294967281 : Nat)) && (decide ((2 : Nat) ≤ c83.length) && (decide (c83.length ≤ (9223372036854775807 : Nat)) && (cs.all bE && c83.all bE))) then bif decide (Lib.index (strAV cs) (strAV c83) < (0 : Int)) then k (Ex.exit (2 : Nat)) c85 [some c82, some (Row.box false [AV.own 901]), some (Row.box false [AV.int IntKind.i64 e]), some (Row.box false [AV.slv (Sh.int IntKind.u8) c83]), some (Row.box false [AV.slv (Sh.int IntKind.u8) cs]), some (Row.box false [AV.int IntKind.i64 0]), some (Row.arr false (Sh.int IntKind.u8) (5 : Nat) out none)] else bif slb (0 : Int) (IntKind.i64.wrap (Lib.index (strAV cs) (strAV c83) + (0 : Int))) cs.length then bif (↑c81.length : Int) == (↑c81.length : Int) && (decide ((0 : Int) ≤ (↑c81.length : Int)) && decide ((↑c81.length : Int) ≤ (↑c81.length : Int))) then bif (fun x => PID + x) (0 : Nat) == PID && ((0 : Int) == (0 : Int) && decide ((5 : TypeId) = (5 : TypeId) ∧ (0 : Int) ≤ e ∧ out.length + (2 : Nat) * e.toNat + (List.take (↑c81.length : Int).toNat c81).length ≤ (10000000000 : Nat))) then bif sqF (strAV (List.take (↑c81.length : Int).toNat c81)) == [] then bif slb (IntKind.i64.wrap (Lib.index (strAV cs) (strAV c83) + (↑c83.length : Int))) (↑cs.length : Int) cs.length then bif decide (c80.length < cs.length) then bif decide ((5 : TypeId) = (5 : TypeId) ∧ (0 : Int) ≤ e + (1 : Int) ∧ out.length + (2 : Nat) * (e + (1 : Int)).toNat + (3 : Nat) * c80.length ≤ (1000000 : Nat)) && c80.all bE then k (Ex.exit (2 : Nat)) c85 [some c82, some (Row.box false [AV.own 901]), some (Row.box false [AV.int IntKind.i64 (cbL c80.length c80 (out, e + (1 : Int))).snd.snd]), some (Row.box false [AV.slv (Sh.int IntKind.u8) c83]), some (Row.box false [AV.slv (Sh.int IntKind.u8) (cbL c80.length c80 (out, e + (1 : Int))).fst]), some (Row.box false [AV.int IntKind.i64 0]), some (Row.arr false (Sh.int IntKind.u8) (5 : Nat) (cbL c80.length c80 (out, e + (1 : Int))).snd.fst none)] else none else none else none else bif slb (IntKind.i64.wrap (Lib.index (strAV cs) (strAV c83) + (↑c83.length : Int))) (↑cs.length : Int) cs.length then bif decide (c80.length < cs.length) then bif decide ((5 : TypeId) = (5 : TypeId) ∧ (0 : Int) ≤ (0 : Int) ∧ (out ++ bytesAV c84).length + (2 : Nat) * Int.toNat (0 : Int) + (3 : Nat) * c80.length ≤ (1000000 : Nat)) && c80.all bE then k (Ex.exit (2 : Nat)) c85 [some c82, some (Row.box false [AV.own 901]), some (Row.box false [AV.int IntKind.i64 (cbL c80.length c80 (out ++ bytesAV c84, (0 : Int))).snd.snd]), some (Row.box false [AV.slv (Sh.int IntKind.u8) c83]), some (Row.box false [AV.slv (Sh.int IntKind.u8) (cbL c80.length c80 (out ++ bytesAV c84, (0 : Int))).fst]), some (Row.box false [AV.int IntKind.i64 0]), some (Row.arr false (Sh.int IntKind.u8) (5 : Nat) (cbL c80.length c80 (out ++ bytesAV c84, (0 : Int))).snd.fst none)] else none else none else none else none else none else none else none) (by kernel_rfl) ?_
    conv => zeta
    rw [← hk]
    have hx : Lib.index (strAV cs) (strAV [.int .u8 13, .int .u8 10]) = cbi cs := rfl
    have h2 : ([.int .u8 13, .int .u8 10] : List AV).length = 2 := rfl
    have hb2 : ([.int .u8 13, .int .u8 10] : List AV).all bE = true := rfl
    have hc0 : (decide (cs.length < 4294967281) && (decide (2 ≤ ([.int .u8 13, .int .u8 10] : List AV).length) && (decide (([.int .u8 13, .int .u8 10] : List AV).length ≤ 9223372036854775807) && (cs.all bE && ([.int .u8 13, .int .u8 10] : List AV).all bE)))) = true := and_t (decide_eq_true (by omega)) (and_t (decide_eq_true (by rw [h2]; omega)) (and_t (decide_eq_true (by rw [h2]; omega)) (and_t hall hb2)))
    refine Eq.trans (cond_t hc0) ?_
    rw [hx]
    by_cases hneg : cbi cs < 0
    · have : cbL cs.length cs (out, e) = (cs, out, e) := by
        rw [cbL_fuel cs.length (cs.length + 1) cs _ (Nat.le_refl _) (by omega), cbL_step, decide_eq_true hneg]; rfl
      rw [decide_eq_true hneg, this]
      rfl
    · have hroom := cbi_room (cs := cs) (by omega)
      obtain ⟨m, hm⟩ : ∃ m : Nat, cbi cs = m := ⟨(cbi cs).toNat, by omega⟩
      rw [hm, Int.toNat_natCast] at hroom
      have w1 : IntKind.i64.wrap ((m : Int) + 0) = (m : Int) := by rw [wrap_mid _ (by omega) (by omega)]; omega
      have w2 : IntKind.i64.wrap ((m : Int) + ((2 : Nat) : Int)) = ((m + 2 : Nat) : Int) := by rw [wrap_mid _ (by omega) (by omega)]; omega
      have t1 : List.take (m - Int.toNat 0) (List.drop 0 cs) = cs.take m := rfl
      have t2 : List.take ((cs.length : Int).toNat - (m + 2)) (cs.drop (m + 2)) = cs.drop (m + 2) := List.take_of_length_le (by rw [List.length_drop]; omega)
      have tl : (cs.take m).length = m := by rw [List.length_take]; omega
      have t3 : List.take m (cs.take m) = cs.take m := by rw [List.take_take, Nat.min_self]
      have hd : (cs.drop (m + 2)).length = cs.length - (m + 2) := List.length_drop
      have hda : (cs.drop (m + 2)).all bE = true := List.all_eq_true.2 fun x hx => List.all_eq_true.1 hall x (List.mem_of_mem_drop hx)
      have hcb : cbL cs.length cs (out, e) = cbL (cs.length - (m + 2)) (cs.drop (m + 2)) (rnd (out, e) (cs.take m)) := by
        rw [cbL_fuel cs.length (cs.length + 1) cs _ (Nat.le_refl _) (by omega), cbL_step, decide_eq_false hneg, cond_false, hm, Int.toNat_natCast]
        exact cbL_fuel _ _ _ _ (by omega) (by omega)
      have t4 : ((cs.length : Nat) : Int).toNat = cs.length := by omega
      simp only [hm, h2, w1, w2, t1, t4, tl, t3, Int.toNat_natCast] at t2 ⊢
      simp only [t2, hd, hda, Bool.and_true]
      rw [hcb]
      have hq := sqF_len (strAV (cs.take m))
      have hsl : (strAV (cs.take m)).length = m := by rw [strAV_len, tl]
      have g1 : slb 0 (m : Int) cs.length = true := slb_true (by omega) (by omega) (by omega)
      have g2 : ((m : Int) == (m : Int) && (decide (0 ≤ (m : Int)) && decide ((m : Int) ≤ (m : Int)))) = true := and_t (beq_self_eq_true _) (and_t (decide_eq_true (by omega)) (decide_eq_true (by omega)))
      have g3 : slb ((m + 2 : Nat) : Int) (cs.length : Int) cs.length = true := slb_true (by omega) (by omega) (by omega)
      have g4 : decide (cs.length - (m + 2) < cs.length) = true := decide_eq_true (by omega)
      rw [decide_eq_false (show ¬ (m : Int) < 0 by omega), cond_false, g1, cond_true]
      have hr := Lib.repeatL_length [13, 10] e.toNat
      have h22 : ([13, 10] : List UInt8).length = 2 := rfl
      rw [h22] at hr
      have hlen : (bytesAV (Lib.repeatL [13, 10] e.toNat ++ sqF (strAV (cs.take m)) ++ [13, 10])).length = e.toNat * 2 + (sqF (strAV (cs.take m))).length + 2 := by rw [bytesAV_length, List.length_append, List.length_append, hr, h22]
      refine Eq.trans (cond_t g2) (Eq.trans (cond_t (and_t (beq_self_eq_true PID) (and_t rfl (decide_eq_true (And.intro True.intro (And.intro he (by omega))))))) ?_)
      unfold rnd
      cases sqF (strAV (cs.take m)) == []
      · exact Eq.trans (cond_f rfl) (Eq.trans (cond_t g3) (Eq.trans (cond_t g4) (Eq.trans (cond_t (decide_eq_true (And.intro True.intro (And.intro (Int.le_refl _) (by rw [List.length_append, hlen]; show _ + 2 * 0 + _ ≤ _; omega))))) rfl)))
      · exact Eq.trans (cond_t rfl) (Eq.trans (cond_t g3) (Eq.trans (cond_t g4) (Eq.trans (cond_t (decide_eq_true (And.intro True.intro (And.intro (by omega) (by omega))))) rfl)))
  · cases h
theorem cbL_inv : ∀ (f : Nat) (cs out : List AV) (e : Int), 0 ≤ e → out.length + 2 * e.toNat + 3 * cs.length ≤ 1000000 →
    0 ≤ (cbL f cs (out, e)).2.2 ∧ (cbL f cs (out, e)).2.1.length + 2 * (cbL f cs (out, e)).2.2.toNat + 3 * (cbL f cs (out, e)).1.length ≤ 1000000
  | 0, cs, out, e, he, hb => ⟨he, hb⟩
  | f + 1, cs, out, e, he, hb => by
    rw [cbL_step]
    by_cases h : cbi cs < 0
    · rw [decide_eq_true h]; exact ⟨he, hb⟩
    · rw [decide_eq_false h, cond_false]
      have hroom := cbi_room (cs := cs) (by omega)
      have hq := sqF_len (strAV (cs.take (cbi cs).toNat))
      have hsl : (strAV (cs.take (cbi cs).toNat)).length = (cbi cs).toNat := by rw [strAV_len, List.length_take]; omega
      have hr := Lib.repeatL_length [13, 10] e.toNat
      have h22 : ([13, 10] : List UInt8).length = 2 := rfl
      rw [h22] at hr
      have hd : (cs.drop ((cbi cs).toNat + 2)).length = cs.length - ((cbi cs).toNat + 2) := List.length_drop
      unfold rnd
      cases sqF (strAV (cs.take (cbi cs).toNat)) == []
      · refine cbL_inv f _ _ 0 (Int.le_refl _) ?_
        rw [List.length_append, bytesAV_length, List.length_append, List.length_append, hr, h22, hd]
        show out.length + (e.toNat * 2 + (sqF (strAV (cs.take (cbi cs).toNat))).length + 2) + 2 * 0 + 3 * (cs.length - ((cbi cs).toNat + 2)) ≤ 1000000
        omega
      · refine cbL_inv f _ _ (e + 1) (by omega) ?_
        rw [hd]
        show out.length + 2 * (e + 1).toNat + 3 * (cs.length - ((cbi cs).toNat + 2)) ≤ 1000000
        omega
def bdyF (cs : List AV) : List AV × Int := rnd (cbL cs.length cs ([], 0)).2 (cbL cs.length cs ([], 0)).1
def F180 : List AV → List Row → Tr XOut
  | [.own 1125899906842624, .ptr 1125899906842627 0, .ptr 1125899906842628 0, .ptr 1125899906842629 0], [.box false [.tup [.int .i64 0], .slv (.int .u8) bs, .undef, .slz (.int .u8), .ptr 1125899906842625 0, .ptr 1125899906842626 0, .undef, .undef, .slv (.int .u8) bs', .unk, .unk, .fn 180 [.ptr 1125899906842627 0, .ptr 1125899906842628 0, .ptr 1125899906842629 0], .undef, .undef, .undef, .undef, .undef, .undef, .undef, .undef, .undef, .undef, .undef, .undef, .undef, .undef, .undef, .undef], .box false [.slz (.int .u8)], .box false [.int .i64 0], .box false [.slv (.int .u8) [.int .u8 13, .int .u8 10]], .box false [.slv (.int .u8) cs], .box false [.int .i64 0]] =>
    .gd (decide (cs.length ≤ 20000) && cs.all bE) (.leaf (.tup [], [some (.box false [.tup [.int .i64 0], .slv (.int .u8) bs, .undef, .slz (.int .u8), .ptr 1125899906842625 0, .ptr 1125899906842626 0, .undef, .undef, .slv (.int .u8) bs', .unk, .unk, .fn 180 [.ptr 1125899906842627 0, .ptr 1125899906842628 0, .ptr 1125899906842629 0], .undef, .undef, .undef, .undef, .undef, .undef, .undef, .undef, .undef, .undef, .undef, .undef, .undef, .undef, .undef, .undef]), some (.box false [.own RID]), some (.box false [.int .i64 (bdyF cs).2]), some (.box false [.slv (.int .u8) [.int .u8 13, .int .u8 10]]), some (.box false [.slv (.int .u8) (cbL cs.length cs ([], 0)).1]), some (.box false [.int .i64 0])], [.arr false (.int .u8) 5 (bdyF cs).1 none]))
  | _, _ => .no
theorem ok180 : XOK Tryz.prog 180 (ofX F180) ∧ XNat (ofX F180) := by
  refine ⟨xsums (K := [(1, l180b), (5, l180)]) (H := []) (bs := [b180, c180]) g180 Tryz.func180 (by kernel_rfl) (fun b hb => ?_) fun ρ avs rows k r h => ?_, xnat_ofX _⟩
  · rcases List.mem_cons.1 hb with rfl | hb
    · exact ⟨l180b, by kernel_rfl, loop180b _⟩
    · rcases List.mem_cons.1 hb with rfl | hb
      · exact ⟨l180, by kernel_rfl, loop180⟩
      · cases hb
  change (F180 avs rows).run _ = some r at h
  unfold F180 at h
  split at h
  · rename_i bs bs' cs
    obtain ⟨hc, hk⟩ := gd_some h
    simp only [Bool.and_eq_true] at hc
    obtain ⟨hc, hall⟩ := hc
    have hcs : cs.length ≤ 20000 := of_decide_eq_true hc
    refine ⟨by simp, fun rows' hsp => ?_⟩
    obtain rfl : rows' = [.box false [.tup [.int .i64 0], .slv (.int .u8) bs, .undef, .slz (.int .u8), .ptr 1125899906842625 0, .ptr 1125899906842626 0, .undef, .undef, .slv (.int .u8) bs', .unk, .unk, .fn 180 [.ptr 1125899906842627 0, .ptr 1125899906842628 0, .ptr 1125899906842629 0], .undef, .undef, .undef, .undef, .undef, .undef, .undef, .undef, .undef, .undef, .undef, .undef, .undef, .undef, .undef, .undef], .box false [.slz (.int .u8)], .box false [.int .i64 0], .box false [.slv (.int .u8) [.int .u8 13, .int .u8 10]], .box false [.slv (.int .u8) cs], .box false [.int .i64 0]] := by
      match rows', hsp with
      | [r1, r2, r3, r4, r5, r6], ⟨h1, h2, h3, h4, h5, h6, _⟩ => rw [h1, h2, h3, h4, h5, h6]
    refine Eq.trans (b := have c80 := (cbL cs.length cs ([], (0 : Int))); have c81 := (Row.box false [AV.tup [AV.int IntKind.i64 0], AV.slv (Sh.int IntKind.u8) bs, AV.undef, AV.slz (Sh.int IntKind.u8), AV.ptr 1125899906842625 0, AV.ptr 1125899906842626 0, AV.undef, AV.undef, AV.slv (Sh.int IntKind.u8) bs', AV.unk, AV.unk, AV.fn (180 : Nat) [AV.ptr 1125899906842627 0, AV.ptr 1125899906842628 0, AV.ptr 1125899906842629 0], AV.undef, AV.undef, AV.undef, AV.undef, AV.undef, AV.undef, AV.undef, AV.undef, AV.undef, AV.undef, AV.undef, AV.undef, AV.undef, AV.undef, AV.undef, AV.undef]); bif decide (((1125899906842625 : Nat), (0 : Nat), (901 : Nat), (5 : TypeId)).snd.snd.snd = (5 : TypeId) ∧ (0 : Int) ≤ (0 : Int) ∧ ([] : List AV).length + (2 : Nat) * Int.toNat (0 : Int) + (3 : Nat) * cs.length ≤ (1000000 : Nat)) && cs.all bE then bif (↑c80.fst.length : Int) == (↑c80.fst.length : Int) && (decide ((0 : Int) ≤ (↑c80.fst.length : Int)) && decide ((↑c80.fst.length : Int) ≤ (↑c80.fst.length : Int))) then bif (fun x => PID + x) (0 : Nat) == PID && ((0 : Int) == (0 : Int) && decide (((1125899906842625 : Nat), (0 : Nat), (901 : Nat), (5 : TypeId)).snd.snd.snd = (5 : TypeId) ∧ (0 : Int) ≤ c80.snd.snd ∧ c80.snd.fst.length + (2 : Nat) * c80.snd.snd.toNat + (List.take (↑c80.fst.length : Int).toNat c80.fst).length ≤ (10000000000 : Nat))) then bif sqF (strAV (List.take (↑c80.fst.length : Int).toNat c80.fst)) == [] then k (AV.tup []) [some c81, some (Row.box false [AV.own 2251799813685248]), some (Row.box false [AV.int IntKind.i64 (c80.snd.snd + (1 : Int))]), some (Row.box false [AV.slv (Sh.int IntKind.u8) [AV.int IntKind.u8 13, AV.int IntKind.u8 10]]), some (Row.box false [AV.slv (Sh.int IntKind.u8) c80.fst]), some (Row.box false [AV.int IntKind.i64 0])] [Row.arr false (Sh.int IntKind.u8) (5 : Nat) c80.snd.fst none] else k (AV.tup []) [some c81, some (Row.box false [AV.own 2251799813685248]), some (Row.box false [AV.int IntKind.i64 0]), some (Row.box false [AV.slv (Sh.int IntKind.u8) [AV.int IntKind.u8 13, AV.int IntKind.u8 10]]), some (Row.box false [AV.slv (Sh.int IntKind.u8) c80.fst]), some (Row.box false [AV.int IntKind.i64 0])] [Row.arr false (Sh.int IntKind.u8) (5 : Nat) (c80.snd.fst ++ bytesAV (Lib.repeatL [(13 : UInt8), (10 : UInt8)] c80.snd.snd.toNat ++ sqF (strAV (List.take (↑c80.fst.length : Int).toNat c80.fst)) ++ [(13 : UInt8), (10 : UInt8)])) none] else none else none else none) (by kernel_rfl) ?_
    conv => zeta
    rw [← hk]
    have hi := cbL_inv cs.length cs [] 0 (Int.le_refl _) (by show 0 + 2 * 0 + _ ≤ _; omega)
    unfold bdyF
    generalize cbL cs.length cs ([], 0) = q at hi ⊢
    obtain ⟨cs', out, e⟩ := q
    obtain ⟨i1, i2⟩ := hi
    simp only [] at i1 i2
    have t : List.take ((cs'.length : Nat) : Int).toNat cs' = cs' := List.take_of_length_le (by omega)
    simp only [t]
    refine Eq.trans (cond_t (and_t (decide_eq_true (And.intro True.intro (And.intro (Int.le_refl _) (by show 0 + 2 * 0 + _ ≤ _; omega)))) hall)) (Eq.trans (cond_t (and_t (beq_self_eq_true _) (and_t (decide_eq_true (by omega)) (decide_eq_true (Int.le_refl _))))) (Eq.trans (cond_t (and_t (beq_self_eq_true PID) (and_t rfl (decide_eq_true (And.intro True.intro (And.intro i1 (by omega))))))) ?_))
    unfold rnd
    cases sqF (strAV cs') == [] <;> rfl
  · cases h
end Go.Proofs.YtpmlhkoianekfaaGreatDoor


namespace Go.Proofs.YtpmlhkoianekfaaGreatDoor
open Go.Ev
noncomputable def G53 : Env := { pure := [], opens := [(86, ofX F86), (180, ofX F180)], conv := true, rng := [(5, 0, 5000)] }
theorem g53 : GOK Tryz.prog G53 := GOK.flags (GOK.alsoX (GOK.alsoX g0 ok180) ok86)
def F53 : List AV → Tr AV
  | [.slv (.int .u8) cs] => .gd (decide (cs.length ≤ 20000) && cs.all bE) (.leaf (.slv (.int .u8) (bdyF cs).1))
  | _ => .no
theorem rng_one {Γ : Env} {fn : Func} {n site : Nat} {key : Int} {q : Array Tmp × Code × Code} (h : fn.body.map rngsOf = some [q]) (hf : Γ.rng = [(n, key, site)]) (hq : q = loopCode key) : ∀ c, fn.body = some c → RngOK Γ none c := by
  intro c hc q' hq' key' site' he
  rw [hc] at h
  simp only [Option.map_some, Option.some.injEq] at h
  rw [h, List.mem_singleton] at hq'
  subst hq'
  rw [hf] at he
  unfold findIn at he
  split at he
  · simp only [Option.some.injEq, Prod.mk.injEq] at he
    obtain ⟨rfl, rfl⟩ := he
    exact ⟨rfl, hq⟩
  · cases he
theorem rng53 : (Tryz.f53.body.map rngsOf) = some [loopCode 0] := by kernel_rfl
theorem ok53 : SumOK Tryz.prog 53 (ofT F53) ∧ SNat (ofT F53) := by
  refine ⟨sumOK_ofR g53 (drawOK g53 (by kernel_rfl)) Tryz.func53 (fun ρ avs k r h => ⟨[], fun c hc => KOK.nil (by
      have h1 : Tryz.f53.body.map loopsOf = some [] := by kernel_rfl
      rw [hc] at h1
      simpa using h1), ?_⟩) (rng_one rng53 rfl rfl), snat_ofT _⟩
  change (F53 avs).run k = some r at h
  unfold F53 at h
  split at h
  · rename_i cs
    obtain ⟨hc, hk⟩ := gd_some h
    refine Eq.trans (b := bif decide (cs.length ≤ (20000 : Nat)) && cs.all bE then k (AV.slv (Sh.int IntKind.u8) (bdyF cs).fst) else none) (by kernel_rfl) ?_
    rw [← hk, hc]
    rfl
  · cases h
end Go.Proofs.YtpmlhkoianekfaaGreatDoor


namespace Go.Proofs.YtpmlhkoianekfaaGreatDoor
open Go.Ev
noncomputable def b14 : Code := ((Tryz.f14.body.map loopsOf).getD []).headD .skip
def bad14 (c m n : Int) : Bool := c == 0 || (c == 13 || (c == 10 || (decide (c > m) || n == 998)))
def wgL (es : List AV) (m : Int) : Nat → Int → Nat → Int × Int × Nat
  | 0, n, i => (-1, n, i)
  | f + 1, n, i => bif decide (i < es.length) then
      (bif iE (es.getD i .unk) == 13 && (decide (i + 1 < es.length) && iE (es.getD (i + 1) .unk) == 10) then wgL es m f 0 (i + 2)
       else bif bad14 (iE (es.getD i .unk)) m n then ((i : Int), n, i) else wgL es m f (n + 1) (i + 1))
    else (-1, n, i)
theorem wgL_step (es : List AV) (m : Int) (f : Nat) (n : Int) (i : Nat) : wgL es m (f + 1) n i = bif decide (i < es.length) then
      (bif iE (es.getD i .unk) == 13 && (decide (i + 1 < es.length) && iE (es.getD (i + 1) .unk) == 10) then wgL es m f 0 (i + 2)
       else bif bad14 (iE (es.getD i .unk)) m n then ((i : Int), n, i) else wgL es m f (n + 1) (i + 1))
    else (-1, n, i) := rfl
theorem wgL_fuel (es : List AV) (m : Int) : ∀ (f g : Nat) (n : Int) (i : Nat), es.length - i < f → es.length - i < g → wgL es m f n i = wgL es m g n i
  | 0, _, _, _, h, _ => absurd h (Nat.not_lt_zero _)
  | _ + 1, 0, _, _, _, h => absurd h (Nat.not_lt_zero _)
  | f + 1, g + 1, n, i, hf, hg => by
    rw [wgL_step, wgL_step]
    by_cases h : i < es.length
    · rw [wgL_fuel es m f g 0 (i + 2) (by omega) (by omega), wgL_fuel es m f g (n + 1) (i + 1) (by omega) (by omega)]
    · rw [decide_eq_false h]; rfl
def wg (es : List AV) (m : Int) (n : Int) (i : Nat) : Int × Int × Nat := wgL es m (es.length - i + 1) n i
theorem wg_lt {es : List AV} {i : Nat} (h : i < es.length) (m n : Int) : wg es m n i = bif iE (es.getD i .unk) == 13 && (decide (i + 1 < es.length) && iE (es.getD (i + 1) .unk) == 10) then wg es m 0 (i + 2)
       else bif bad14 (iE (es.getD i .unk)) m n then ((i : Int), n, i) else wg es m (n + 1) (i + 1) := by
  unfold wg
  rw [wgL_step, decide_eq_true h, cond_true, wgL_fuel es m (es.length - i) (es.length - (i + 1) + 1) (n + 1) (i + 1) (by omega) (by omega)]
  by_cases h2 : i + 1 < es.length
  · rw [wgL_fuel es m (es.length - i) (es.length - (i + 2) + 1) 0 (i + 2) (by omega) (by omega)]
  · rw [decide_eq_false h2, Bool.false_and, Bool.and_false]; rfl
theorem wg_end {es : List AV} (m n : Int) : wg es m n es.length = (-1, n, es.length) := by
  unfold wg
  rw [wgL_step, decide_eq_false (Nat.lt_irrefl _)]; rfl
theorem bad14_cases (c m n : Int) {α : Type} (a b : α) : (bif c == 0 then a else bif c == 13 then a else bif c == 10 then a else bif decide (c > m) then a else bif n == 998 then a else b) = bif bad14 c m n then a else b := by
  unfold bad14
  cases c == 0 <;> cases c == 13 <;> cases c == 10 <;> cases decide (c > m) <;> cases n == 998 <;> rfl
def L14 : List AV → List (Option Row) → Tr LOut
  | [.slv (.int .u8) es, .int .u8 m, .int .i64 r, .int .i64 n, .int .i64 i], [] =>
    .gd (small es.length && decide (0 ≤ i ∧ i ≤ es.length ∧ 0 ≤ n ∧ n ≤ i)) (.br ((wg es m n i.toNat).1 == -1)
      (.leaf (.exit 0, [.slv (.int .u8) es, .int .u8 m, .int .i64 r, .int .i64 (wg es m n i.toNat).2.1, .int .i64 (wg es m n i.toNat).2.2], []))
      (.leaf (.ret, [.slv (.int .u8) es, .int .u8 m, .int .i64 (wg es m n i.toNat).1, .int .i64 (wg es m n i.toNat).2.1, .int .i64 (wg es m n i.toNat).2.2], [])))
  | _, _ => .no
def l14 : Ev.Loop := ⟨{ len := 59, slots := [0, 1, 4, 5, 6] }, ofL L14⟩
def μ14 (vs : List AV) (_ : List (Option Row)) : Nat := match vs with
  | [.slv _ es, _, _, _, .int _ i] => ((es.length : Int) - i).toNat
  | _ => 0
theorem loop14 : LoopOK Tryz.prog G0 [(3, l14)] b14 l14 := by
  refine loopT g0.natOK rfl (KOK.nil (by kernel_rfl)) μ14 (fun ρ vs rs k r h => ?_)
  unfold L14 at h
  split at h
  · rename_i es m r0 n i
    obtain ⟨hc, hk⟩ := gd_some h
    simp only [Bool.and_eq_true, decide_eq_true_eq] at hc
    obtain ⟨hs, h0, h1, h2, h3⟩ := hc
    have hs : es.length ≤ 9223372036854775807 := of_decide_eq_true hs
    obtain ⟨j, rfl⟩ : ∃ j : Nat, i = j := ⟨i.toNat, by omega⟩
    rw [Int.toNat_natCast] at hk
    refine Eq.trans (b := have c80 := [AV.slv (Sh.int IntKind.u8) es, AV.int IntKind.u8 m, AV.int IntKind.i64 (↑j : Int), AV.int IntKind.i64 n, AV.int IntKind.i64 (↑j : Int)]; have c81 := (wg es m (IntKind.i64.wrap (n + (1 : Int))) (IntKind.i64.wrap ((↑j : Int) + (1 : Int))).toNat); have c83 := [AV.slv (Sh.int IntKind.u8) es, AV.int IntKind.u8 m, AV.int IntKind.i64 c81.fst, AV.int IntKind.i64 c81.snd.fst, AV.int IntKind.i64 (↑c81.snd.snd : Int)]; have c84 := [AV.slv (Sh.int IntKind.u8) es, AV.int IntKind.u8 m, AV.int IntKind.i64 r0, AV.int IntKind.i64 c81.snd.fst, AV.int IntKind.i64 (↑c81.snd.snd : Int)]; have c85 := (IntKind.i64.wrap ((↑j : Int) + (1 : Int)) + (1 : Int)); have c82 := (wg es m (0 : Int) (IntKind.i64.wrap c85).toNat); bif decide ((↑j : Int) < (↑es.length : Int)) then bif inb (↑j : Int) es.length then bif (iE (es.getD j AV.unk)) == (13 : Int) then bif decide (IntKind.i64.wrap ((↑j : Int) + (1 : Int)) < (↑es.length : Int)) then bif inb (IntKind.i64.wrap ((↑j : Int) + (1 : Int))) es.length then bif (iE (es.getD (IntKind.i64.wrap ((↑j : Int) + (1 : Int))).toNat AV.unk)) == (10 : Int) then bif decide (((↑es.length : Int) - IntKind.i64.wrap c85).toNat < ((↑es.length : Int) - (↑j : Int)).toNat) then bif small es.length && decide ((0 : Int) ≤ IntKind.i64.wrap c85 ∧ IntKind.i64.wrap c85 ≤ (↑es.length : Int) ∧ (0 : Int) ≤ (0 : Int) ∧ (0 : Int) ≤ IntKind.i64.wrap c85) then bif c82.fst == (-1 : Int) then k (Ex.exit (0 : Nat)) [AV.slv (Sh.int IntKind.u8) es, AV.int IntKind.u8 m, AV.int IntKind.i64 r0, AV.int IntKind.i64 c82.snd.fst, AV.int IntKind.i64 (↑c82.snd.snd : Int)] [] else k Ex.ret [AV.slv (Sh.int IntKind.u8) es, AV.int IntKind.u8 m, AV.int IntKind.i64 c82.fst, AV.int IntKind.i64 c82.snd.fst, AV.int IntKind.i64 (↑c82.snd.snd : Int)] [] else none else none else bif (iE (es.getD j AV.unk)) == (0 : Int) then k Ex.ret c80 [] else bif (iE (es.getD j AV.unk)) == (13 : Int) then k Ex.ret c80 [] else bif (iE (es.getD j AV.unk)) == (10 : Int) then k Ex.ret c80 [] else bif decide ((iE (es.getD j AV.unk)) > m) then k Ex.ret c80 [] else bif n == (998 : Int) then k Ex.ret c80 [] else bif decide (((↑es.length : Int) - IntKind.i64.wrap ((↑j : Int) + (1 : Int))).toNat < ((↑es.length : Int) - (↑j : Int)).toNat) then bif small es.length && decide ((0 : Int) ≤ IntKind.i64.wrap ((↑j : Int) + (1 : Int)) ∧ IntKind.i64.wrap ((↑j : Int) + (1 : Int)) ≤ (↑es.length : Int) ∧ (0 : Int) ≤ IntKind.i64.wrap (n + (1 : Int)) ∧ IntKind.i64.wrap (n + (1 : Int)) ≤ IntKind.i64.wrap ((↑j : Int) + (1 : Int))) then bif c81.fst == (-1 : Int) then k (Ex.exit (0 : Nat)) c84 [] else k Ex.ret c83 [] else none else none else none else bif (iE (es.getD j AV.unk)) == (0 : Int) then k Ex.ret c80 [] else bif (iE (es.getD j AV.unk)) == (13 : Int) then k Ex.ret c80 [] else bif (iE (es.getD j AV.unk)) == (10 : Int) then k Ex.ret c80 [] else bif decide ((iE (es.getD j AV.unk)) > m) then k Ex.ret c80 [] else bif n == (998 : Int) then k Ex.ret c80 [] else bif decide (((↑es.length : Int) - IntKind.i64.wrap ((↑j : Int) + (1 : Int))).toNat < ((↑es.length : Int) - (↑j : Int)).toNat) then bif small es.length && decide ((0 : Int) ≤ IntKind.i64.wrap ((↑j : Int) + (1 : Int)) ∧ IntKind.i64.wrap ((↑j : Int) + (1 : Int)) ≤ (↑es.length : Int) ∧ (0 : Int) ≤ IntKind.i64.wrap (n + (1 : Int)) ∧ IntKind.i64.wrap (n + (1 : Int)) ≤ IntKind.i64.wrap ((↑j : Int) + (1 : Int))) then bif c81.fst == (-1 : Int) then k (Ex.exit (0 : Nat)) c84 [] else k Ex.ret c83 [] else none else none else bif (iE (es.getD j AV.unk)) == (0 : Int) then k Ex.ret c80 [] else bif (iE (es.getD j AV.unk)) == (13 : Int) then k Ex.ret c80 [] else bif (iE (es.getD j AV.unk)) == (10 : Int) then k Ex.ret c80 [] else bif decide ((iE (es.getD j AV.unk)) > m) then k Ex.ret c80 [] else bif n == (998 : Int) then k Ex.ret c80 [] else bif decide (((↑es.length : Int) - IntKind.i64.wrap ((↑j : Int) + (1 : Int))).toNat < ((↑es.length : Int) - (↑j : Int)).toNat) then bif small es.length && decide ((0 : Int) ≤ IntKind.i64.wrap ((↑j : Int) + (1 : Int)) ∧ IntKind.i64.wrap ((↑j : Int) + (1 : Int)) ≤ (↑es.length : Int) ∧ (0 : Int) ≤ IntKind.i64.wrap (n + (1 : Int)) ∧ IntKind.i64.wrap (n + (1 : Int)) ≤ IntKind.i64.wrap ((↑j : Int) + (1 : Int))) then bif c81.fst == (-1 : Int) then k (Ex.exit (0 : Nat)) c84 [] else k Ex.ret c83 [] else none else none else none else k (Ex.exit (0 : Nat)) [AV.slv (Sh.int IntKind.u8) es, AV.int IntKind.u8 m, AV.int IntKind.i64 r0, AV.int IntKind.i64 n, AV.int IntKind.i64 (↑j : Int)] []) (by kernel_rfl) ?_
    conv => zeta
    rw [← hk]
    by_cases hlt : j < es.length
    · have d0 : decide ((j : Int) < (es.length : Int)) = true := decide_eq_true (by omega)
      have i0 : inb (j : Int) es.length = true := inb_true (by omega) (by omega)
      have w1 : IntKind.i64.wrap ((j : Int) + 1) = ((j + 1 : Nat) : Int) := by rw [wrap_small _ (by omega) (by omega)]; rfl
      have wn : IntKind.i64.wrap (n + 1) = n + 1 := wrap_small _ (by omega) (by omega)
      have m1 : decide (((es.length : Int) - ((j + 1 : Nat) : Int)).toNat < ((es.length : Int) - (j : Int)).toNat) = true := decide_eq_true (by omega)
      have x7 : decide (0 ≤ ((j + 1 : Nat) : Int) ∧ ((j + 1 : Nat) : Int) ≤ (es.length : Int) ∧ 0 ≤ n + 1 ∧ n + 1 ≤ ((j + 1 : Nat) : Int)) = true := decide_eq_true (by omega)
      have hs' : small es.length = true := decide_eq_true hs
      have hm : ((j : Int) == -1) = false := by rw [Bool.eq_false_iff]; intro h; have := eq_of_beq h; omega
      have dd : ∀ i : Nat, decide ((i : Int) < (es.length : Int)) = decide (i < es.length) := fun i => by
        by_cases h : i < es.length
        · rw [decide_eq_true h, decide_eq_true (by omega)]
        · rw [decide_eq_false h, decide_eq_false (by omega)]
      rw [wg_lt hlt m n]
      simp only [i0, w1, wn, m1, x7, hs', dd, Int.toNat_natCast, Bool.and_true, Bool.true_and, cond_true]
      rw [decide_eq_true hlt]
      simp only [cond_true]
      have tail : (bif iE (es.getD j .unk) == 0 then k (.ret) [AV.slv (.int .u8) es, .int .u8 m, .int .i64 j, .int .i64 n, .int .i64 j] [] else bif iE (es.getD j .unk) == 13 then k (.ret) [AV.slv (.int .u8) es, .int .u8 m, .int .i64 j, .int .i64 n, .int .i64 j] [] else bif iE (es.getD j .unk) == 10 then k (.ret) [AV.slv (.int .u8) es, .int .u8 m, .int .i64 j, .int .i64 n, .int .i64 j] [] else bif decide (iE (es.getD j .unk) > m) then k (.ret) [AV.slv (.int .u8) es, .int .u8 m, .int .i64 j, .int .i64 n, .int .i64 j] [] else bif n == 998 then k (.ret) [AV.slv (.int .u8) es, .int .u8 m, .int .i64 j, .int .i64 n, .int .i64 j] [] else bif (wg es m (n + 1) (j + 1)).1 == -1 then k (.exit 0) [AV.slv (.int .u8) es, .int .u8 m, .int .i64 r0, .int .i64 (wg es m (n + 1) (j + 1)).2.1, .int .i64 (wg es m (n + 1) (j + 1)).2.2] [] else k (.ret) [AV.slv (.int .u8) es, .int .u8 m, .int .i64 (wg es m (n + 1) (j + 1)).1, .int .i64 (wg es m (n + 1) (j + 1)).2.1, .int .i64 (wg es m (n + 1) (j + 1)).2.2] []) = (bif (bif bad14 (iE (es.getD j .unk)) m n then ((j : Int), n, j) else wg es m (n + 1) (j + 1)).1 == -1 then k (.exit 0) [AV.slv (.int .u8) es, .int .u8 m, .int .i64 r0, .int .i64 (bif bad14 (iE (es.getD j .unk)) m n then ((j : Int), n, j) else wg es m (n + 1) (j + 1)).2.1, .int .i64 (bif bad14 (iE (es.getD j .unk)) m n then ((j : Int), n, j) else wg es m (n + 1) (j + 1)).2.2] [] else k (.ret) [AV.slv (.int .u8) es, .int .u8 m, .int .i64 (bif bad14 (iE (es.getD j .unk)) m n then ((j : Int), n, j) else wg es m (n + 1) (j + 1)).1, .int .i64 (bif bad14 (iE (es.getD j .unk)) m n then ((j : Int), n, j) else wg es m (n + 1) (j + 1)).2.1, .int .i64 (bif bad14 (iE (es.getD j .unk)) m n then ((j : Int), n, j) else wg es m (n + 1) (j + 1)).2.2] []) := by
        rw [bad14_cases]
        cases bad14 (iE (es.getD j .unk)) m n
        · rfl
        · simp only [cond_true, hm, cond_false]
      cases hA : iE (es.getD j .unk) == 13
      · rw [hA] at tail
        simp only [Bool.false_and, cond_false] at tail ⊢
        exact tail
      · rw [hA] at tail
        simp only [Bool.true_and, cond_true] at tail ⊢
        cases hP : decide (j + 1 < es.length)
        · simp only [Bool.false_and, cond_false]
          exact tail
        · have hp : j + 1 < es.length := of_decide_eq_true hP
          have i1 : inb ((j + 1 : Nat) : Int) es.length = true := inb_true (by omega) (by omega)
          have w2 : IntKind.i64.wrap (((j + 1 : Nat) : Int) + 1) = ((j + 2 : Nat) : Int) := by rw [wrap_small _ (by omega) (by omega)]; rfl
          have m2 : decide (((es.length : Int) - ((j + 2 : Nat) : Int)).toNat < ((es.length : Int) - (j : Int)).toNat) = true := decide_eq_true (by omega)
          have y7 : decide (0 ≤ ((j + 2 : Nat) : Int) ∧ ((j + 2 : Nat) : Int) ≤ (es.length : Int) ∧ 0 ≤ (0 : Int) ∧ (0 : Int) ≤ ((j + 2 : Nat) : Int)) = true := decide_eq_true (by omega)
          simp only [i1, w2, m2, y7, Int.toNat_natCast, cond_true, Bool.true_and]
          cases iE (es.getD (j + 1) .unk) == 10
          · exact tail
          · rfl
    · obtain rfl : j = es.length := by omega
      rw [decide_eq_false (by omega), wg_end]
      rfl
  · cases h
def F14 : List AV → Tr AV
  | [.slv (.int .u8) es, .int .u8 m] => .gd (small es.length) (.leaf (.int .i64 (wg es m 0 0).1))
  | _ => .no
theorem ok14 : SumOK Tryz.prog 14 (ofT F14) ∧ SNat (ofT F14) := by
  refine fn1 (K := [(3, l14)]) (b := b14) (l := l14) g0 Tryz.func14 (by kernel_rfl) (by kernel_rfl) loop14 fun ρ avs k r h => ?_
  unfold F14 at h
  split at h
  · rename_i es m
    obtain ⟨hc, hk⟩ := gd_some h
    have hs : es.length ≤ 9223372036854775807 := of_decide_eq_true hc
    refine Eq.trans (b := bif small es.length && decide ((0 : Int) ≤ (0 : Int) ∧ (0 : Int) ≤ (↑es.length : Int) ∧ (0 : Int) ≤ (0 : Int) ∧ (0 : Int) ≤ (0 : Int)) then bif (wg es m (0 : Int) (0 : Nat)).fst == (-1 : Int) then k (AV.int IntKind.i64 (-1 : Int)) else k (AV.int IntKind.i64 (wg es m (0 : Int) (0 : Nat)).fst) else none) (by kernel_rfl) ?_
    rw [← hk, hc]
    refine Eq.trans (cond_t (and_t rfl (decide_eq_true (by omega)))) ?_
    cases hw : (wg es m 0 0).1 == -1
    · rfl
    · rw [cond_true, eq_of_beq hw]; rfl
  · cases h
def crlfB (cs : List AV) : Bool := decide ((cs.length : Int) ≥ 2) && (iE (cs.getD 0 .unk) == 13 && iE (cs.getD 1 .unk) == 10)
def F39 : List AV → Tr AV
  | [.slv (.int .u8) cs] => .gd (small cs.length) (.leaf (.bool (crlfB cs)))
  | _ => .no
theorem ok39 : SumOK Tryz.prog 39 (ofT F39) ∧ SNat (ofT F39) := by
  refine fn0 g0 Tryz.func39 (by kernel_rfl) fun ρ avs k r h => ?_
  unfold F39 at h
  split at h
  · rename_i cs
    obtain ⟨hc, hk⟩ := gd_some h
    refine Eq.trans (b := bif decide ((↑cs.length : Int) ≥ (2 : Int)) then bif inb (0 : Int) cs.length then bif (iE (cs.getD (0 : Nat) AV.unk)) == (13 : Int) then bif inb (1 : Int) cs.length then k (AV.bool ((iE (cs.getD (Int.toNat (1 : Int)) AV.unk)) == (10 : Int))) else none else k (AV.bool false) else none else k (AV.bool false)) (by kernel_rfl) ?_
    rw [← hk]
    unfold crlfB
    by_cases h2 : 2 ≤ cs.length
    · have d : decide ((cs.length : Int) ≥ 2) = true := decide_eq_true (by omega)
      have i0 : inb 0 cs.length = true := inb_true (by omega) (by omega)
      have i1 : inb 1 cs.length = true := inb_true (by omega) (by omega)
      rw [d, i0, i1]
      cases iE (cs.getD 0 .unk) == 13 <;> rfl
    · have d : decide ((cs.length : Int) ≥ 2) = false := decide_eq_false (by omega)
      rw [d]; rfl
  · cases h
def hexU : List UInt8 := [48, 49, 50, 51, 52, 53, 54, 55, 56, 57, 65, 66, 67, 68, 69, 70]
def hu (n : Int) : Int := ((hexU.getD (n.toNat % 16) 0).toNat : Int)
theorem low4 {n : Int} (h : inR n 0 255 = true) : IntKind.u8.wrap ((BitVec.ofInt IntKind.u8.bits n &&& BitVec.ofInt IntKind.u8.bits 15).toNat : Int) = ((n.toNat % 16 : Nat) : Int) := by
  unfold inR at h
  simp only [Bool.and_eq_true, decide_eq_true_eq] at h
  obtain ⟨m, rfl⟩ : ∃ m : Nat, n = m := ⟨n.toNat, by omega⟩
  have hm : m < 256 := by omega
  have : ∀ m : Fin 256, IntKind.u8.wrap ((BitVec.ofInt IntKind.u8.bits ((m : Nat) : Int) &&& BitVec.ofInt IntKind.u8.bits 15).toNat : Int) = (((m : Nat) % 16 : Nat) : Int) := by decide +kernel
  exact this ⟨m, hm⟩
def F76 : List AV → Tr AV
  | [.int .u8 n] => .gd (inR n 0 255) (.leaf (.int .u8 (hu n)))
  | _ => .no
theorem ok76 : SumOK Tryz.prog 76 (ofT F76) ∧ SNat (ofT F76) := by
  refine fn0 g0 Tryz.func76 (by kernel_rfl) fun ρ avs k r h => ?_
  unfold F76 at h
  split at h
  · rename_i n
    obtain ⟨hc, hk⟩ := gd_some h
    refine Eq.trans (b := bif inb (IntKind.u8.wrap (↑(BitVec.ofInt IntKind.u8.bits n &&& BitVec.ofInt IntKind.u8.bits (15 : Int)).toNat : Int)) ([48, 49, 50, 51, 52, 53, 54, 55, 56, 57, 65, 66, 67, 68, 69, 70] : List UInt8).length then k (AV.int IntKind.u8 (↑(([48, 49, 50, 51, 52, 53, 54, 55, 56, 57, 65, 66, 67, 68, 69, 70] : List UInt8).getD (IntKind.u8.wrap (↑(BitVec.ofInt IntKind.u8.bits n &&& BitVec.ofInt IntKind.u8.bits (15 : Int)).toNat : Int)).toNat (0 : UInt8)).toNat : Int)) else none) (by kernel_rfl) ?_
    rw [low4 hc, ← hk]
    have hm := Nat.mod_lt n.toNat (show 16 > 0 by decide)
    exact cond_t (inb_true (by omega) (by show _ < ((16 : Nat) : Int); omega))
  · cases h
noncomputable def G40 : Env := { pure := [(39, ofT F39), (76, ofT F76), (71, ofT F71)] }
theorem g40 : GOK Tryz.prog G40 := GOK.also (GOK.also (GOK.also g0 ok71) ok76) ok39
def slf (c : Int) (cs : List AV) : Bool := decide (c ≥ 33) && (decide (c ≤ 126) && c != 61) || (isB' c && !((cs.length : Int) == 0 || crlfB cs))
def sgn (c : Int) (cs : List AV) : List AV := bif slf c cs then [.int .u8 c] else [.int .u8 61, .int .u8 (hu (c / 16)), .int .u8 (hu c)]
theorem inR_16 {c : Int} (h : inR c 0 255 = true) : inR (c / 16) 0 255 = true := by
  unfold inR at h ⊢
  simp only [Bool.and_eq_true, decide_eq_true_eq] at h ⊢
  omega
def F40 : List AV → Tr AV
  | [.int .u8 c, .slv (.int .u8) cs] => .gd (small cs.length && inR c 0 255) (.leaf (.slv (.int .u8) (sgn c cs)))
  | _ => .no
theorem ok40 : SumOK Tryz.prog 40 (ofT F40) ∧ SNat (ofT F40) := by
  refine fn0 g40 Tryz.func40 (by kernel_rfl) fun ρ avs k r h => ?_
  unfold F40 at h
  split at h
  · rename_i c cs
    obtain ⟨hc, hk⟩ := gd_some h
    refine Eq.trans (b := have c81 := (c.fdiv ((2 : Int) ^ min (Int.toNat (4 : Int)) IntKind.u8.bits)); have c80 := (AV.slv (Sh.int IntKind.u8) [AV.int IntKind.u8 61, AV.int IntKind.u8 (hu c81), AV.int IntKind.u8 (hu c)]); have c82 := (AV.slv (Sh.int IntKind.u8) [AV.int IntKind.u8 c]); bif (↑cs.length : Int) == (0 : Int) then bif decide (c ≥ (33 : Int)) then bif decide (c ≤ (126 : Int)) then bif c != (61 : Int) then k c82 else bif isB' c then bif inR c81 (0 : Int) (255 : Int) then bif inR c (0 : Int) (255 : Int) then k c80 else none else none else bif inR c81 (0 : Int) (255 : Int) then bif inR c (0 : Int) (255 : Int) then k c80 else none else none else bif isB' c then bif inR c81 (0 : Int) (255 : Int) then bif inR c (0 : Int) (255 : Int) then k c80 else none else none else bif inR c81 (0 : Int) (255 : Int) then bif inR c (0 : Int) (255 : Int) then k c80 else none else none else bif isB' c then bif inR c81 (0 : Int) (255 : Int) then bif inR c (0 : Int) (255 : Int) then k c80 else none else none else bif inR c81 (0 : Int) (255 : Int) then bif inR c (0 : Int) (255 : Int) then k c80 else none else none else bif small cs.length then bif decide (c ≥ (33 : Int)) then bif decide (c ≤ (126 : Int)) then bif c != (61 : Int) then k c82 else bif isB' c then bif !crlfB cs then k c82 else bif inR c81 (0 : Int) (255 : Int) then bif inR c (0 : Int) (255 : Int) then k c80 else none else none else bif inR c81 (0 : Int) (255 : Int) then bif inR c (0 : Int) (255 : Int) then k c80 else none else none else bif isB' c then bif !crlfB cs then k c82 else bif inR c81 (0 : Int) (255 : Int) then bif inR c (0 : Int) (255 : Int) then k c80 else none else none else bif inR c81 (0 : Int) (255 : Int) then bif inR c (0 : Int) (255 : Int) then k c80 else none else none else bif isB' c then bif !crlfB cs then k c82 else bif inR c81 (0 : Int) (255 : Int) then bif inR c (0 : Int) (255 : Int) then k c80 else none else none else bif inR c81 (0 : Int) (255 : Int) then bif inR c (0 : Int) (255 : Int) then k c80 else none else none else none) (by kernel_rfl) ?_
    conv => zeta
    rw [← hk]
    obtain ⟨h1, h2⟩ := (Bool.and_eq_true _ _).mp hc
    have hx : c.fdiv ((2 : Int) ^ min (Int.toNat (4 : Int)) IntKind.u8.bits) = c / 16 := Int.fdiv_eq_ediv_of_nonneg c (by decide)
    simp only [hx, h1, h2, inR_16 h2]
    unfold sgn slf
    cases (cs.length : Int) == 0 <;> cases decide (c ≥ 33) <;> cases decide (c ≤ 126) <;> cases c != 61 <;> cases isB' c <;> cases crlfB cs <;> rfl
  · cases h
end Go.Proofs.YtpmlhkoianekfaaGreatDoor


namespace Go.Proofs.YtpmlhkoianekfaaGreatDoor
open Go.Ev
def F13 : List AV → Tr AV
  | [.int .i64 a, .int .i64 b] => .leaf (.agg [.int .i64 a, .int .i64 b])
  | _ => .no
theorem ok13 : SumOK Tryz.prog 13 (ofT F13) ∧ SNat (ofT F13) := by
  refine fn0 g0 Tryz.func13 (by kernel_rfl) fun ρ avs k r h => ?_
  unfold F13 at h
  split at h
  · rename_i a b
    have hk := h
    refine Eq.trans (b := k (AV.agg [AV.int IntKind.i64 a, AV.int IntKind.i64 b])) (by kernel_rfl) ?_
    exact hk
  · cases h
def F15 : List AV → Tr AV
  | [] => .leaf (.agg [.int .i64 0, .int .i64 0])
  | _ => .no
theorem ok15 : SumOK Tryz.prog 15 (ofT F15) ∧ SNat (ofT F15) := by
  refine fn0 g0 Tryz.func15 (by kernel_rfl) fun ρ avs k r h => ?_
  unfold F15 at h
  split at h
  · have hk := h
    refine Eq.trans (b := k (AV.agg [AV.int IntKind.i64 (0 : Int), AV.int IntKind.i64 (0 : Int)])) (by kernel_rfl) ?_
    exact hk
  · cases h
def F19 : List AV → Tr AV
  | [.agg [.int .i64 a, .int .i64 _b]] => .leaf (.bool (a != 0))
  | _ => .no
theorem ok19 : SumOK Tryz.prog 19 (ofT F19) ∧ SNat (ofT F19) := by
  refine fn0 g0 Tryz.func19 (by kernel_rfl) fun ρ avs k r h => ?_
  unfold F19 at h
  split at h
  · rename_i a b
    have hk := h
    refine Eq.trans (b := k (AV.bool (a != (0 : Int)))) (by kernel_rfl) ?_
    exact hk
  · cases h
noncomputable def G16 : Env := { pure := [(39, ofT F39), (40, ofT F40), (13, ofT F13), (15, ofT F15)] }
theorem g16 : GOK Tryz.prog G16 := GOK.also (GOK.also (GOK.also (GOK.also g0 ok15) ok13) ok40) ok39
noncomputable def b16 : Code := ((Tryz.f16.body.map loopsOf).getD []).headD .skip
def lim16 (r : List AV) : Int := bif decide ((r.length : Int) > 0) && !crlfB r then 75 else 76
def st16 (x : AV) (t : List AV) (c : Int) : List AV × Int :=
  bif crlfB (x :: t) then ([.int .u8 13, .int .u8 10], 0)
  else bif decide (c + (sgn (iE x) t).length > lim16 t) then ([.int .u8 61, .int .u8 13, .int .u8 10] ++ sgn (iE x) t, (sgn (iE x) t).length)
  else (sgn (iE x) t, c + (sgn (iE x) t).length)
def qL : Nat → List AV → Int → List AV × Int
  | 0, _, c => ([], c)
  | _ + 1, [], c => ([], c)
  | f + 1, x :: t, c => ((st16 x t c).1 ++ (qL f (bif crlfB (x :: t) then t.drop 1 else t) (st16 x t c).2).1, (qL f (bif crlfB (x :: t) then t.drop 1 else t) (st16 x t c).2).2)
theorem qL_fuel : ∀ (f g : Nat) (r : List AV) (c : Int), r.length ≤ f → r.length ≤ g → qL f r c = qL g r c
  | 0, 0, _, _, _, _ => rfl
  | 0, _ + 1, [], _, _, _ => rfl
  | 0, _ + 1, _ :: _, _, h, _ => absurd h (Nat.not_succ_le_zero _)
  | _ + 1, 0, [], _, _, _ => rfl
  | _ + 1, 0, _ :: _, _, _, h => absurd h (Nat.not_succ_le_zero _)
  | _ + 1, _ + 1, [], _, _, _ => rfl
  | f + 1, g + 1, x :: t, c, hf, hg => by
    have h : (bif crlfB (x :: t) then t.drop 1 else t).length ≤ t.length := by
      cases crlfB (x :: t)
      · exact Nat.le_refl _
      · rw [cond_true, List.length_drop]; omega
    rw [List.length_cons] at hf hg
    show ((st16 x t c).1 ++ (qL f _ (st16 x t c).2).1, (qL f _ (st16 x t c).2).2) = ((st16 x t c).1 ++ (qL g _ (st16 x t c).2).1, (qL g _ (st16 x t c).2).2)
    rw [qL_fuel f g _ _ (by omega) (by omega)]
def q16 (r : List AV) (c : Int) : List AV × Int := qL r.length r c
theorem q16_cons (x : AV) (t : List AV) (c : Int) : q16 (x :: t) c = ((st16 x t c).1 ++ (q16 (bif crlfB (x :: t) then t.drop 1 else t) (st16 x t c).2).1, (q16 (bif crlfB (x :: t) then t.drop 1 else t) (st16 x t c).2).2) := by
  have h : (bif crlfB (x :: t) then t.drop 1 else t).length ≤ t.length := by
    cases crlfB (x :: t)
    · exact Nat.le_refl _
    · rw [cond_true, List.length_drop]; omega
  unfold q16
  show ((st16 x t c).1 ++ (qL t.length _ (st16 x t c).2).1, (qL t.length _ (st16 x t c).2).2) = _
  rw [qL_fuel t.length _ _ _ h (Nat.le_refl _)]
theorem sgn_len (c : Int) (cs : List AV) : 1 ≤ (sgn c cs).length ∧ (sgn c cs).length ≤ 3 := by
  unfold sgn
  cases slf c cs
  · exact ⟨Nat.succ_le_succ (Nat.zero_le _), Nat.le_refl 3⟩
  · exact ⟨Nat.le_refl 1, Nat.succ_le_succ (Nat.zero_le _)⟩
theorem bE_iE {e : AV} (h : bE e = true) : inR (iE e) 0 255 = true := by
  unfold bE at h
  obtain ⟨h1, h2⟩ := (Bool.and_eq_true _ _).mp h
  obtain ⟨m, rfl⟩ : ∃ m, e = .int .u8 m := byte_of h1
  exact h2
def L16 : List AV → List (Option Row) → Tr LOut
  | [.slv (.int .u8) es, .ptr 1 0, .own 900, .int .i64 c, .int .i64 i], [some (.box false [.int .i64 0, .int .i64 0]), some (.arr false (.int .u8) e out none)] =>
    .gd (cnt es.length i es.length && (es.all bE && decide (es.length ≤ 12000 ∧ 0 ≤ c ∧ c ≤ 76 ∧ out.length ≤ 6 * i.toNat ∧ e = 5))) (.leaf (.exit 0, [.slv (.int .u8) es, .ptr 1 0, .own 900, .int .i64 (q16 (es.drop i.toNat) c).2, .int .i64 es.length], [some (.box false [.int .i64 0, .int .i64 0]), some (.arr false (.int .u8) e (out ++ (q16 (es.drop i.toNat) c).1) none)]))
  | _, _ => .no
def l16 : Ev.Loop := ⟨{ len := 67, slots := [0, 3, 4, 5, 6], rows := [1, 900], homes := [(4, 900, 5)] }, ofL L16⟩
def μ16 (vs : List AV) (_ : List (Option Row)) : Nat := match vs with
  | [.slv _ es, _, _, _, .int _ i] => ((es.length : Int) - i).toNat
  | _ => 0
theorem loop16 : LoopOK Tryz.prog G16 [(6, l16)] b16 l16 := by
  refine loopT g16.natOK rfl (KOK.nil (by kernel_rfl)) μ16 (fun ρ vs rs k r h => ?_)
  unfold L16 at h
  split at h
  · rename_i es c i e out
    obtain ⟨hc, hk⟩ := gd_some h
    simp only [Bool.and_eq_true] at hc
    obtain ⟨hc, hbb, hb0⟩ := hc
    obtain ⟨hb, hc0, hc1, hb2, rfl⟩ := of_decide_eq_true hb0
    clear hb0
    obtain ⟨-, hs, j, rfl, hj⟩ := cnt_spec hc
    rw [Int.toNat_natCast] at hk hb2
    refine Eq.trans (b := have c82 := (IntKind.i64.wrap ((↑j : Int) + (1 : Int))); have c80 := (List.take ((↑es.length : Int).toNat - c82.toNat) (List.drop c82.toNat es)); have c83 := [AV.int IntKind.u8 61, AV.int IntKind.u8 13, AV.int IntKind.u8 10]; have c90 := ((↑es.length : Int) - IntKind.i64.wrap ((↑j : Int) + (1 : Int))); have c91 := (IntKind.i64.wrap (IntKind.i64.wrap ((↑j : Int) + (1 : Int)) + (1 : Int))); have c92 := ((↑es.length : Int) - (↑j : Int)); have c93 := (sgn (iE (es.getD j AV.unk)) c80); have c81 := (↑c93.length : Int); have c84 := (es.all bE && decide (es.length ≤ (12000 : Nat) ∧ (0 : Int) ≤ IntKind.i64.wrap ((0 : Int) + c81) ∧ IntKind.i64.wrap ((0 : Int) + c81) ≤ (76 : Int) ∧ (out ++ c83 ++ sgn (iE (es.getD j AV.unk)) c80).length ≤ (6 : Nat) * c82.toNat ∧ (5 : Nat) = (5 : TypeId))); have c85 := [some (Row.box false [AV.int IntKind.i64 0, AV.int IntKind.i64 0]), some (Row.arr false (Sh.int IntKind.u8) (5 : Nat) (out ++ c83 ++ sgn (iE (es.getD j AV.unk)) c80 ++ (q16 (List.drop c82.toNat es) (IntKind.i64.wrap ((0 : Int) + c81))).fst) none)]; have c86 := (es.all bE && decide (es.length ≤ (12000 : Nat) ∧ (0 : Int) ≤ IntKind.i64.wrap (c + c81) ∧ IntKind.i64.wrap (c + c81) ≤ (76 : Int) ∧ (out ++ sgn (iE (es.getD j AV.unk)) c80).length ≤ (6 : Nat) * c82.toNat ∧ (5 : Nat) = (5 : TypeId))); have c87 := [some (Row.box false [AV.int IntKind.i64 0, AV.int IntKind.i64 0]), some (Row.arr false (Sh.int IntKind.u8) (5 : Nat) (out ++ sgn (iE (es.getD j AV.unk)) c80 ++ (q16 (List.drop c82.toNat es) (IntKind.i64.wrap (c + c81))).fst) none)]; have c88 := [AV.slv (Sh.int IntKind.u8) es, AV.ptr 1 0, AV.own 900, AV.int IntKind.i64 (q16 (List.drop c82.toNat es) (IntKind.i64.wrap ((0 : Int) + c81))).snd, AV.int IntKind.i64 (↑es.length : Int)]; have c89 := [AV.slv (Sh.int IntKind.u8) es, AV.ptr 1 0, AV.own 900, AV.int IntKind.i64 (q16 (List.drop c82.toNat es) (IntKind.i64.wrap (c + c81))).snd, AV.int IntKind.i64 (↑es.length : Int)]; bif decide ((↑j : Int) < (↑es.length : Int)) then bif slb (↑j : Int) (↑es.length : Int) es.length then bif small (List.take ((↑es.length : Int).toNat - j) (List.drop j es)).length then bif crlfB (List.take ((↑es.length : Int).toNat - j) (List.drop j es)) then bif roomB (out.length + [AV.int IntKind.u8 13, AV.int IntKind.u8 10].length) (Tryz.prog.bytesOf 5) then bif decide (((↑es.length : Int) - IntKind.i64.wrap (IntKind.i64.wrap ((↑j : Int) + (1 : Int)) + (1 : Int))).toNat < c92.toNat) then bif cnt (↑es.length : Int) c91 es.length && (es.all bE && decide (es.length ≤ (12000 : Nat) ∧ (0 : Int) ≤ (0 : Int) ∧ (0 : Int) ≤ (76 : Int) ∧ (out ++ [AV.int IntKind.u8 13, AV.int IntKind.u8 10]).length ≤ (6 : Nat) * c91.toNat ∧ (5 : Nat) = (5 : TypeId))) then k (Ex.exit (0 : Nat)) [AV.slv (Sh.int IntKind.u8) es, AV.ptr 1 0, AV.own 900, AV.int IntKind.i64 (q16 (List.drop c91.toNat es) (0 : Int)).snd, AV.int IntKind.i64 (↑es.length : Int)] [some (Row.box false [AV.int IntKind.i64 0, AV.int IntKind.i64 0]), some (Row.arr false (Sh.int IntKind.u8) (5 : Nat) (out ++ [AV.int IntKind.u8 13, AV.int IntKind.u8 10] ++ (q16 (List.drop c91.toNat es) (0 : Int)).fst) none)] else none else none else none else bif slb c82 (↑es.length : Int) es.length then bif inb (↑j : Int) es.length then bif small c80.length && inR (iE (es.getD j AV.unk)) (0 : Int) (255 : Int) then bif decide ((↑c80.length : Int) > (0 : Int)) then bif small c80.length then bif !crlfB c80 then bif decide (IntKind.i64.wrap (c + c81) > IntKind.i64.wrap ((76 : Int) - (1 : Int))) then bif roomB (out.length + c83.length) (Tryz.prog.bytesOf 5) then bif roomB ((out ++ c83).length + c93.length) (Tryz.prog.bytesOf 5) then bif decide (c90.toNat < c92.toNat) then bif cnt (↑es.length : Int) c82 es.length && c84 then k (Ex.exit (0 : Nat)) c88 c85 else none else none else none else none else bif roomB (out.length + c93.length) (Tryz.prog.bytesOf 5) then bif decide (c90.toNat < c92.toNat) then bif cnt (↑es.length : Int) c82 es.length && c86 then k (Ex.exit (0 : Nat)) c89 c87 else none else none else none else bif decide (IntKind.i64.wrap (c + c81) > (76 : Int)) then bif roomB (out.length + c83.length) (Tryz.prog.bytesOf 5) then bif roomB ((out ++ c83).length + c93.length) (Tryz.prog.bytesOf 5) then bif decide (c90.toNat < c92.toNat) then bif cnt (↑es.length : Int) c82 es.length && c84 then k (Ex.exit (0 : Nat)) c88 c85 else none else none else none else none else bif roomB (out.length + c93.length) (Tryz.prog.bytesOf 5) then bif decide (c90.toNat < c92.toNat) then bif cnt (↑es.length : Int) c82 es.length && c86 then k (Ex.exit (0 : Nat)) c89 c87 else none else none else none else none else bif decide (IntKind.i64.wrap (c + c81) > (76 : Int)) then bif roomB (out.length + c83.length) (Tryz.prog.bytesOf 5) then bif roomB ((out ++ c83).length + c93.length) (Tryz.prog.bytesOf 5) then bif decide (c90.toNat < c92.toNat) then bif cnt (↑es.length : Int) c82 es.length && c84 then k (Ex.exit (0 : Nat)) c88 c85 else none else none else none else none else bif roomB (out.length + c93.length) (Tryz.prog.bytesOf 5) then bif decide (c90.toNat < c92.toNat) then bif cnt (↑es.length : Int) c82 es.length && c86 then k (Ex.exit (0 : Nat)) c89 c87 else none else none else none else none else none else none else none else none else k (Ex.exit (0 : Nat)) [AV.slv (Sh.int IntKind.u8) es, AV.ptr 1 0, AV.own 900, AV.int IntKind.i64 c, AV.int IntKind.i64 (↑j : Int)] [some (Row.box false [AV.int IntKind.i64 0, AV.int IntKind.i64 0]), some (Row.arr false (Sh.int IntKind.u8) (5 : Nat) out none)]) (by kernel_rfl) ?_
    conv => zeta
    rw [← hk]
    by_cases hlt : j < es.length
    · obtain ⟨e1, e2, e3, e4, e5⟩ := cnt_facts hlt hs
      have hx : inR (iE (es.getD j .unk)) 0 255 = true := bE_iE (List.all_eq_true.1 hbb _ (by rw [getD_eq hlt]; exact List.getElem_mem hlt))
      have sl0 : slb (j : Int) (es.length : Int) es.length = true := slb_true (by omega) (by omega) (by omega)
      have sl1 : slb ((j + 1 : Nat) : Int) (es.length : Int) es.length = true := slb_true (by omega) (by omega) (by omega)
      have t0 : List.take (es.length - j) (es.drop j) = es.drop j := List.take_of_length_le (by rw [List.length_drop]; omega)
      have t1 : List.take (es.length - (j + 1)) (es.drop (j + 1)) = es.drop (j + 1) := List.take_of_length_le (by rw [List.length_drop]; omega)
      have sm0 : small (es.drop j).length = true := decide_eq_true (by rw [List.length_drop]; omega)
      have sm1 : small (es.drop (j + 1)).length = true := decide_eq_true (by rw [List.length_drop]; omega)
      have hq : q16 (es.drop j) c = q16 (es.getD j .unk :: es.drop (j + 1)) c := by rw [drop_getD hlt]
      have hcr : crlfB (es.drop j) = crlfB (es.getD j .unk :: es.drop (j + 1)) := by rw [drop_getD hlt]
      rw [hq, q16_cons]
      simp only [e1, e2, e3, e4, e5, hx, sl0, sl1, Int.toNat_natCast, t0, t1, sm0, sm1, hbb, hcr, cond_true, Bool.true_and, Int.zero_add]
      obtain ⟨l1, l3⟩ := sgn_len (iE (es.getD j .unk)) (es.drop (j + 1))
      have wl : IntKind.i64.wrap (((sgn (iE (es.getD j .unk)) (es.drop (j + 1))).length : Nat) : Int) = ((sgn (iE (es.getD j .unk)) (es.drop (j + 1))).length : Nat) := wrap_small _ (by omega) (by omega)
      have wc : IntKind.i64.wrap (c + ((sgn (iE (es.getD j .unk)) (es.drop (j + 1))).length : Nat)) = c + ((sgn (iE (es.getD j .unk)) (es.drop (j + 1))).length : Nat) := wrap_small _ (by omega) (by omega)
      have w75 : IntKind.i64.wrap (76 - 1) = 75 := by decide
      have n2 : ([.int .u8 13, .int .u8 10] : List AV).length = 2 := rfl
      have n3 : ([.int .u8 61, .int .u8 13, .int .u8 10] : List AV).length = 3 := rfl
      cases hB : crlfB (es.getD j .unk :: es.drop (j + 1))
      · simp only [cond_false, wl, wc, w75]
        unfold st16 lim16
        rw [hB]
        simp only [cond_false]
        have r1 : roomB (out.length + ([.int .u8 61, .int .u8 13, .int .u8 10] : List AV).length) (Tryz.prog.bytesOf 5) = true := room5 (by rw [n3]; omega)
        have r2 : roomB ((out ++ ([.int .u8 61, .int .u8 13, .int .u8 10] : List AV)).length + (sgn (iE (es.getD j .unk)) (es.drop (j + 1))).length) (Tryz.prog.bytesOf 5) = true := room5 (by rw [List.length_append, n3]; omega)
        have r3 : roomB (out.length + (sgn (iE (es.getD j .unk)) (es.drop (j + 1))).length) (Tryz.prog.bytesOf 5) = true := room5 (by omega)
        have d1 : decide (es.length ≤ 12000 ∧ 0 ≤ (((sgn (iE (es.getD j .unk)) (es.drop (j + 1))).length : Nat) : Int) ∧ (((sgn (iE (es.getD j .unk)) (es.drop (j + 1))).length : Nat) : Int) ≤ 76 ∧ (out ++ [AV.int .u8 61, .int .u8 13, .int .u8 10] ++ sgn (iE (es.getD j .unk)) (es.drop (j + 1))).length ≤ 6 * (j + 1) ∧ True) = true := decide_eq_true ⟨hb, by omega, by omega, by rw [List.length_append, List.length_append, n3]; omega, trivial⟩
        have d2 : ∀ m : Int, m ≤ 76 → ¬ (c + (((sgn (iE (es.getD j .unk)) (es.drop (j + 1))).length : Nat) : Int) > m) → decide (es.length ≤ 12000 ∧ 0 ≤ c + (((sgn (iE (es.getD j .unk)) (es.drop (j + 1))).length : Nat) : Int) ∧ c + (((sgn (iE (es.getD j .unk)) (es.drop (j + 1))).length : Nat) : Int) ≤ 76 ∧ (out ++ sgn (iE (es.getD j .unk)) (es.drop (j + 1))).length ≤ 6 * (j + 1) ∧ True) = true := fun m hm hn => decide_eq_true ⟨hb, by omega, by omega, by rw [List.length_append]; omega, trivial⟩
        simp only [r1, r2, r3, d1, cond_true]
        have fin : ∀ m : Int, m ≤ 76 → (bif decide (c + (((sgn (iE (es.getD j .unk)) (es.drop (j + 1))).length : Nat) : Int) > m) then k (.exit 0) [AV.slv (.int .u8) es, .ptr 1 0, .own 900, .int .i64 (q16 (es.drop (j + 1)) (((sgn (iE (es.getD j .unk)) (es.drop (j + 1))).length : Nat) : Int)).2, .int .i64 es.length] [some (Row.box false [.int .i64 0, .int .i64 0]), some (Row.arr false (.int .u8) 5 (out ++ [.int .u8 61, .int .u8 13, .int .u8 10] ++ sgn (iE (es.getD j .unk)) (es.drop (j + 1)) ++ (q16 (es.drop (j + 1)) (((sgn (iE (es.getD j .unk)) (es.drop (j + 1))).length : Nat) : Int)).1) none)]
            else bif decide (es.length ≤ 12000 ∧ 0 ≤ c + (((sgn (iE (es.getD j .unk)) (es.drop (j + 1))).length : Nat) : Int) ∧ c + (((sgn (iE (es.getD j .unk)) (es.drop (j + 1))).length : Nat) : Int) ≤ 76 ∧ (out ++ sgn (iE (es.getD j .unk)) (es.drop (j + 1))).length ≤ 6 * (j + 1) ∧ True) then k (.exit 0) [AV.slv (.int .u8) es, .ptr 1 0, .own 900, .int .i64 (q16 (es.drop (j + 1)) (c + (((sgn (iE (es.getD j .unk)) (es.drop (j + 1))).length : Nat) : Int))).2, .int .i64 es.length] [some (Row.box false [.int .i64 0, .int .i64 0]), some (Row.arr false (.int .u8) 5 (out ++ sgn (iE (es.getD j .unk)) (es.drop (j + 1)) ++ (q16 (es.drop (j + 1)) (c + (((sgn (iE (es.getD j .unk)) (es.drop (j + 1))).length : Nat) : Int))).1) none)] else none) =
          (Tr.leaf (Ex.exit 0, [AV.slv (.int .u8) es, .ptr 1 0, .own 900, .int .i64 (q16 (es.drop (j + 1)) (bif decide (c + (((sgn (iE (es.getD j .unk)) (es.drop (j + 1))).length : Nat) : Int) > m) then (([.int .u8 61, .int .u8 13, .int .u8 10] ++ sgn (iE (es.getD j .unk)) (es.drop (j + 1)) : List AV), (((sgn (iE (es.getD j .unk)) (es.drop (j + 1))).length : Nat) : Int)) else (sgn (iE (es.getD j .unk)) (es.drop (j + 1)), c + (((sgn (iE (es.getD j .unk)) (es.drop (j + 1))).length : Nat) : Int))).2).2, .int .i64 es.length],
            [some (Row.box false [.int .i64 0, .int .i64 0]), some (Row.arr false (.int .u8) 5 (out ++ ((bif decide (c + (((sgn (iE (es.getD j .unk)) (es.drop (j + 1))).length : Nat) : Int) > m) then (([.int .u8 61, .int .u8 13, .int .u8 10] ++ sgn (iE (es.getD j .unk)) (es.drop (j + 1)) : List AV), (((sgn (iE (es.getD j .unk)) (es.drop (j + 1))).length : Nat) : Int)) else (sgn (iE (es.getD j .unk)) (es.drop (j + 1)), c + (((sgn (iE (es.getD j .unk)) (es.drop (j + 1))).length : Nat) : Int))).1 ++ (q16 (es.drop (j + 1)) (bif decide (c + (((sgn (iE (es.getD j .unk)) (es.drop (j + 1))).length : Nat) : Int) > m) then (([.int .u8 61, .int .u8 13, .int .u8 10] ++ sgn (iE (es.getD j .unk)) (es.drop (j + 1)) : List AV), (((sgn (iE (es.getD j .unk)) (es.drop (j + 1))).length : Nat) : Int)) else (sgn (iE (es.getD j .unk)) (es.drop (j + 1)), c + (((sgn (iE (es.getD j .unk)) (es.drop (j + 1))).length : Nat) : Int))).2).1)) none)])).run (fun q => k q.1 q.2.1 q.2.2) := fun m hm => by
          cases hd : decide (c + (((sgn (iE (es.getD j .unk)) (es.drop (j + 1))).length : Nat) : Int) > m)
          · rw [d2 m hm (of_decide_eq_false hd)]
            simp only [cond_false, cond_true, List.append_assoc]
            rfl
          · simp only [cond_true, List.append_assoc]
            rfl
        cases hl : decide (((es.drop (j + 1)).length : Int) > 0)
        · simp only [cond_false, Bool.false_and]
          exact fin 76 (by omega)
        · cases hc2 : crlfB (es.drop (j + 1))
          · simp only [cond_true, Bool.true_and, Bool.not_false]
            exact fin 75 (by omega)
          · simp only [cond_true, Bool.true_and, Bool.not_true, cond_false]
            exact fin 76 (by omega)
      · have hge : 2 ≤ (es.getD j .unk :: es.drop (j + 1)).length := by
          unfold crlfB at hB
          have := of_decide_eq_true ((Bool.and_eq_true _ _).mp hB).1
          omega
        rw [List.length_cons, List.length_drop] at hge
        have w2 : IntKind.i64.wrap (((j + 1 : Nat) : Int) + 1) = ((j + 2 : Nat) : Int) := by rw [wrap_small _ (by omega) (by omega)]; omega
        have m2 : decide (((es.length : Int) - ((j + 2 : Nat) : Int)).toNat < ((es.length : Int) - (j : Int)).toNat) = true := decide_eq_true (by omega)
        have c2 : cnt (es.length : Int) ((j + 2 : Nat) : Int) es.length = true := and_tt (decide_eq_true rfl) (and_tt (decide_eq_true (by omega)) (and_tt (decide_eq_true (by omega)) (decide_eq_true hs)))
        have d3 : decide (es.length ≤ 12000 ∧ (0 : Int) ≤ 0 ∧ (0 : Int) ≤ 76 ∧ (out ++ ([.int .u8 13, .int .u8 10] : List AV)).length ≤ 6 * (j + 2) ∧ True) = true := decide_eq_true ⟨hb, by omega, by omega, by rw [List.length_append, n2]; omega, trivial⟩
        have r1 : roomB (out.length + ([.int .u8 13, .int .u8 10] : List AV).length) (Tryz.prog.bytesOf 5) = true := room5 (by rw [n2]; omega)
        unfold st16
        rw [hB]
        simp only [cond_true, w2, m2, c2, d3, r1, Int.toNat_natCast, Bool.true_and, List.drop_drop, List.append_assoc]
        rfl
    · obtain rfl : j = es.length := by omega
      rw [decide_eq_false (by omega), List.drop_length]
      show k _ _ _ = k _ _ [some (.box false [.int .i64 0, .int .i64 0]), some (.arr false (.int .u8) 5 (out ++ []) none)]
      rw [List.append_nil]
      rfl
  · cases h
def F16 : List AV → Tr AV
  | [.slv (.int .u8) es] => .gd (small es.length && es.all bE) (.br (decide ((es.length : Int) > 12000)) (.leaf (.tup [.slv (.int .u8) [], .agg [.int .i64 1, .int .i64 (-1)]])) (.leaf (.tup [.slv (.int .u8) (q16 es 0).1, .agg [.int .i64 0, .int .i64 0]])))
  | _ => .no
theorem ok16 : SumOK Tryz.prog 16 (ofT F16) ∧ SNat (ofT F16) := by
  refine fn1 (K := [(6, l16)]) (b := b16) (l := l16) g16 Tryz.func16 (by kernel_rfl) (by kernel_rfl) loop16 fun ρ avs k r h => ?_
  unfold F16 at h
  split at h
  · rename_i es
    obtain ⟨hc, hk⟩ := gd_some h
    obtain ⟨hs, hall⟩ := (Bool.and_eq_true _ _).mp hc
    refine Eq.trans (b := bif decide ((↑es.length : Int) > (12000 : Int)) then k (AV.tup [AV.slv (Sh.int IntKind.u8) [], AV.agg [AV.int IntKind.i64 1, AV.int IntKind.i64 (-1 : Int)]]) else bif cnt (↑es.length : Int) (0 : Int) es.length && (es.all bE && decide (es.length ≤ (12000 : Nat) ∧ (0 : Int) ≤ (0 : Int) ∧ (0 : Int) ≤ (76 : Int) ∧ ([] : List AV).length ≤ (6 : Nat) * Int.toNat (0 : Int) ∧ ((4 : Nat), (900 : Nat), (5 : TypeId)).snd.snd = (5 : TypeId))) then k (AV.tup [AV.slv (Sh.int IntKind.u8) ([] ++ (q16 (List.drop (0 : Nat) es) (0 : Int)).fst), AV.agg [AV.int IntKind.i64 0, AV.int IntKind.i64 0]]) else none) (by kernel_rfl) ?_
    rw [← hk, hall]
    show _ = (bif decide ((es.length : Int) > 12000) then _ else _)
    cases hd : decide ((es.length : Int) > 12000)
    · have := of_decide_eq_false hd
      exact cond_t (and_t (cnt_zero hs) (and_t rfl (decide_eq_true ⟨by omega, by omega, by omega, Nat.le_refl 0, rfl⟩)))
    · rfl
  · cases h
end Go.Proofs.YtpmlhkoianekfaaGreatDoor


namespace Go.Proofs.YtpmlhkoianekfaaGreatDoor
open Go.Ev
def hxV (c : Int) : Int := bif decide (c ≥ 48) && decide (c ≤ 57) then IntKind.u8.wrap (c - 48) else bif decide (c ≥ 65) && decide (c ≤ 70) then IntKind.u8.wrap (IntKind.u8.wrap (c - 65) + 10) else bif decide (c ≥ 97) && decide (c ≤ 102) then IntKind.u8.wrap (IntKind.u8.wrap (c - 97) + 10) else 0
def hxB (c : Int) : Bool := decide (c ≥ 48) && decide (c ≤ 57) || (decide (c ≥ 65) && decide (c ≤ 70) || decide (c ≥ 97) && decide (c ≤ 102))
def F225 : List AV → Tr AV
  | [.int .u8 c] => .leaf (.tup [.int .u8 (hxV c), .bool (hxB c)])
  | _ => .no
theorem ok225 : SumOK Tryz.prog 225 (ofT F225) ∧ SNat (ofT F225) := by
  refine fn0 g0 Tryz.func225 (by kernel_rfl) fun ρ avs k r h => ?_
  unfold F225 at h
  split at h
  · rename_i c
    have hk := h
    refine Eq.trans (b := have c80 := (AV.tup [AV.int IntKind.u8 0, AV.bool false]); have c81 := (AV.tup [AV.int IntKind.u8 (IntKind.u8.wrap (IntKind.u8.wrap (c - (97 : Int)) + (10 : Int))), AV.bool true]); bif decide (c ≥ (48 : Int)) then bif decide (c ≤ (57 : Int)) then k (AV.tup [AV.int IntKind.u8 (IntKind.u8.wrap (c - (48 : Int))), AV.bool true]) else bif decide (c ≥ (65 : Int)) then bif decide (c ≤ (70 : Int)) then k (AV.tup [AV.int IntKind.u8 (IntKind.u8.wrap (IntKind.u8.wrap (c - (65 : Int)) + (10 : Int))), AV.bool true]) else bif decide (c ≥ (97 : Int)) then bif decide (c ≤ (102 : Int)) then k c81 else k c80 else k c80 else bif decide (c ≥ (97 : Int)) then bif decide (c ≤ (102 : Int)) then k c81 else k c80 else k c80 else bif decide (c ≥ (65 : Int)) then bif decide (c ≤ (70 : Int)) then k (AV.tup [AV.int IntKind.u8 (IntKind.u8.wrap (IntKind.u8.wrap (c - (65 : Int)) + (10 : Int))), AV.bool true]) else bif decide (c ≥ (97 : Int)) then bif decide (c ≤ (102 : Int)) then k c81 else k c80 else k c80 else bif decide (c ≥ (97 : Int)) then bif decide (c ≤ (102 : Int)) then k c81 else k c80 else k c80) (by kernel_rfl) ?_
    conv => zeta
    rw [← hk]
    unfold hxV hxB
    cases decide (c ≥ 48) <;> cases decide (c ≤ 57) <;> cases decide (c ≥ 65) <;> cases decide (c ≤ 70) <;> cases decide (c ≥ 97) <;> cases decide (c ≤ 102) <;> rfl
  · cases h
noncomputable def G175 : Env := { pure := [(225, ofT F225)] }
theorem g175 : GOK Tryz.prog G175 := GOK.also g0 ok225
def prV (a b : Int) : Int := IntKind.u8.wrap (((BitVec.ofInt IntKind.u8.bits (IntKind.u8.wrap (hxV a * 2 ^ min (Int.toNat 4) IntKind.u8.bits)) ||| BitVec.ofInt IntKind.u8.bits (hxV b)).toNat : Nat) : Int)
def prS (s : List UInt8) : Int := bif decide ((s.length : Int) < 2) then 0 else prV ((s.getD 0 (0 : UInt8)).toNat : Int) ((s.getD 1 (0 : UInt8)).toNat : Int)
def okS (s : List UInt8) : Bool := bif decide ((s.length : Int) < 2) then false else hxB ((s.getD 0 (0 : UInt8)).toNat : Int) && hxB ((s.getD 1 (0 : UInt8)).toNat : Int)
def F175 : List AV → Tr AV
  | [.str s] => .gd (lenB s.length) (.leaf (.tup [.int .u8 (prS s), .bool (okS s)]))
  | _ => .no
theorem ok175 : SumOK Tryz.prog 175 (ofT F175) ∧ SNat (ofT F175) := by
  refine fn0 g175 Tryz.func175 (by kernel_rfl) fun ρ avs k r h => ?_
  unfold F175 at h
  split at h
  · rename_i s
    obtain ⟨hc, hk⟩ := gd_some h
    refine Eq.trans (b := bif decide ((↑s.length : Int) < (2 : Int)) then k (AV.tup [AV.int IntKind.u8 0, AV.bool false]) else bif inb (0 : Int) s.length then bif inb (1 : Int) s.length then bif hxB (↑(s.getD (0 : Nat) (0 : UInt8)).toNat : Int) then k (AV.tup [AV.int IntKind.u8 (IntKind.u8.wrap (↑(BitVec.ofInt IntKind.u8.bits (IntKind.u8.wrap (hxV (↑(s.getD (0 : Nat) (0 : UInt8)).toNat : Int) * (2 : Int) ^ min (Int.toNat (4 : Int)) IntKind.u8.bits)) ||| BitVec.ofInt IntKind.u8.bits (hxV (↑(s.getD (Int.toNat (1 : Int)) (0 : UInt8)).toNat : Int))).toNat : Int)), AV.bool (hxB (↑(s.getD (Int.toNat (1 : Int)) (0 : UInt8)).toNat : Int))]) else k (AV.tup [AV.int IntKind.u8 (IntKind.u8.wrap (↑(BitVec.ofInt IntKind.u8.bits (IntKind.u8.wrap (hxV (↑(s.getD (0 : Nat) (0 : UInt8)).toNat : Int) * (2 : Int) ^ min (Int.toNat (4 : Int)) IntKind.u8.bits)) ||| BitVec.ofInt IntKind.u8.bits (hxV (↑(s.getD (Int.toNat (1 : Int)) (0 : UInt8)).toNat : Int))).toNat : Int)), AV.bool false]) else none else none) (by kernel_rfl) ?_
    rw [← hk]
    unfold prS okS
    cases hd : decide ((s.length : Int) < 2)
    · have := of_decide_eq_false hd
      refine Eq.trans (cond_f rfl) (Eq.trans (cond_t (inb_true (by omega) (by omega))) (Eq.trans (cond_t (inb_true (by omega) (by omega))) ?_))
      show (bif hxB ((s.getD 0 (0 : UInt8)).toNat : Int) then _ else _) = _
      rw [cond_false, cond_false]
      cases hxB ((s.getD 0 (0 : UInt8)).toNat : Int) <;> rfl
    · rfl
  · cases h
def pL : Nat → List AV → List AV
  | 0, _ => []
  | _ + 1, [] => []
  | f + 1, x :: t => bif iE x == 61 && okS (strAV (t.take 2)) then .int .u8 (prS (strAV (t.take 2))) :: pL f (t.drop 2) else .int .u8 (iE x) :: pL f t
theorem pL_fuel : ∀ (f g : Nat) (r : List AV), r.length ≤ f → r.length ≤ g → pL f r = pL g r
  | 0, 0, _, _, _ => rfl
  | 0, _ + 1, [], _, _ => rfl
  | 0, _ + 1, _ :: _, h, _ => absurd h (Nat.not_succ_le_zero _)
  | _ + 1, 0, [], _, _ => rfl
  | _ + 1, 0, _ :: _, _, h => absurd h (Nat.not_succ_le_zero _)
  | _ + 1, _ + 1, [], _, _ => rfl
  | f + 1, g + 1, x :: t, hf, hg => by
    rw [List.length_cons] at hf hg
    show (bif _ then _ :: pL f (t.drop 2) else _ :: pL f t) = (bif _ then _ :: pL g (t.drop 2) else _ :: pL g t)
    rw [pL_fuel f g t (by omega) (by omega), pL_fuel f g (t.drop 2) (by rw [List.length_drop]; omega) (by rw [List.length_drop]; omega)]
def pD (r : List AV) : List AV := pL r.length r
theorem pD_cons (x : AV) (t : List AV) : pD (x :: t) = bif iE x == 61 && okS (strAV (t.take 2)) then .int .u8 (prS (strAV (t.take 2))) :: pD (t.drop 2) else .int .u8 (iE x) :: pD t := by
  unfold pD
  show (bif _ then _ :: pL t.length (t.drop 2) else _ :: pL t.length t) = _
  rw [pL_fuel t.length (t.drop 2).length (t.drop 2) (by rw [List.length_drop]; omega) (Nat.le_refl _)]
noncomputable def G124 : Env := { pure := [(175, ofT F175)], conv := true }
theorem g124 : GOK Tryz.prog G124 := GOK.flags (GOK.also g0 ok175)
noncomputable def b124 : Code := ((Tryz.f124.body.map loopsOf).getD []).headD .skip
def L124 : List AV → List (Option Row) → Tr LOut
  | [.slv (.int .u8) es, .own 900, .int .i64 i], [some (.arr false (.int .u8) e out none)] =>
    .gd (cnt es.length i es.length && (es.all bE && decide (es.length ≤ 48000 ∧ out.length ≤ i.toNat ∧ e = 5))) (.leaf (.exit 0, [.slv (.int .u8) es, .own 900, .int .i64 es.length], [some (.arr false (.int .u8) e (out ++ pD (es.drop i.toNat)) none)]))
  | _, _ => .no
def l124 : Ev.Loop := ⟨{ len := 47, slots := [0, 3, 4], rows := [900], homes := [(3, 900, 5)] }, ofL L124⟩
def μ124 (vs : List AV) (_ : List (Option Row)) : Nat := match vs with
  | [.slv _ es, _, .int _ i] => ((es.length : Int) - i).toNat
  | _ => 0
theorem loop124 : LoopOK Tryz.prog G124 [(3, l124)] b124 l124 := by
  refine loopT g124.natOK rfl (KOK.nil (by kernel_rfl)) μ124 (fun ρ vs rs k r h => ?_)
  unfold L124 at h
  split at h
  · rename_i es i e out
    obtain ⟨hc, hk⟩ := gd_some h
    simp only [Bool.and_eq_true] at hc
    obtain ⟨hc, hbb, hb0⟩ := hc
    obtain ⟨hb, hb2, rfl⟩ := of_decide_eq_true hb0
    clear hb0
    obtain ⟨-, hs, j, rfl, hj⟩ := cnt_spec hc
    rw [Int.toNat_natCast] at hk hb2
    refine Eq.trans (b := have c81 := (IntKind.i64.wrap ((↑j : Int) + (1 : Int))); have c80 := (strAV (List.take ((if (↑es.length : Int) < IntKind.i64.wrap ((↑j : Int) + (3 : Int)) then (↑es.length : Int) else IntKind.i64.wrap ((↑j : Int) + (3 : Int))).toNat - c81.toNat) (List.drop c81.toNat es))); have c82 := [AV.int IntKind.u8 (iE (es.getD j AV.unk))]; have c83 := [AV.slv (Sh.int IntKind.u8) es, AV.own 900, AV.int IntKind.i64 (↑es.length : Int)]; have c84 := (IntKind.i64.wrap ((↑j : Int) + (2 : Int)) + (1 : Int)); bif decide ((↑j : Int) < (↑es.length : Int)) then bif inb (↑j : Int) es.length then bif (iE (es.getD j AV.unk)) == (61 : Int) then bif slb c81 (if (↑es.length : Int) < IntKind.i64.wrap ((↑j : Int) + (3 : Int)) then (↑es.length : Int) else IntKind.i64.wrap ((↑j : Int) + (3 : Int))) es.length then bif lenB c80.length then bif okS c80 then bif roomB (out.length + [AV.int IntKind.u8 (prS c80)].length) (Tryz.prog.bytesOf 5) then bif decide (((↑es.length : Int) - IntKind.i64.wrap c84).toNat < ((↑es.length : Int) - (↑j : Int)).toNat) then bif cnt (↑es.length : Int) (IntKind.i64.wrap c84) es.length && (es.all bE && decide (es.length ≤ (48000 : Nat) ∧ (out ++ [AV.int IntKind.u8 (prS c80)]).length ≤ (IntKind.i64.wrap c84).toNat ∧ (5 : Nat) = (5 : TypeId))) then k (Ex.exit (0 : Nat)) c83 [some (Row.arr false (Sh.int IntKind.u8) (5 : Nat) (out ++ [AV.int IntKind.u8 (prS c80)] ++ pD (List.drop (IntKind.i64.wrap c84).toNat es)) none)] else none else none else none else bif inb (↑j : Int) es.length then bif roomB (out.length + c82.length) (Tryz.prog.bytesOf 5) then bif decide (((↑es.length : Int) - IntKind.i64.wrap ((↑j : Int) + (1 : Int))).toNat < ((↑es.length : Int) - (↑j : Int)).toNat) then bif cnt (↑es.length : Int) c81 es.length && (es.all bE && decide (es.length ≤ (48000 : Nat) ∧ (out ++ c82).length ≤ c81.toNat ∧ (5 : Nat) = (5 : TypeId))) then k (Ex.exit (0 : Nat)) c83 [some (Row.arr false (Sh.int IntKind.u8) (5 : Nat) (out ++ c82 ++ pD (List.drop c81.toNat es)) none)] else none else none else none else none else none else none else bif inb (↑j : Int) es.length then bif roomB (out.length + c82.length) (Tryz.prog.bytesOf 5) then bif decide (((↑es.length : Int) - IntKind.i64.wrap ((↑j : Int) + (1 : Int))).toNat < ((↑es.length : Int) - (↑j : Int)).toNat) then bif cnt (↑es.length : Int) c81 es.length && (es.all bE && decide (es.length ≤ (48000 : Nat) ∧ (out ++ c82).length ≤ c81.toNat ∧ (5 : Nat) = (5 : TypeId))) then k (Ex.exit (0 : Nat)) c83 [some (Row.arr false (Sh.int IntKind.u8) (5 : Nat) (out ++ c82 ++ pD (List.drop c81.toNat es)) none)] else none else none else none else none else none else k (Ex.exit (0 : Nat)) [AV.slv (Sh.int IntKind.u8) es, AV.own 900, AV.int IntKind.i64 (↑j : Int)] [some (Row.arr false (Sh.int IntKind.u8) (5 : Nat) out none)]) (by kernel_rfl) ?_
    conv => zeta
    rw [← hk]
    by_cases hlt : j < es.length
    · obtain ⟨e1, e2, e3, e4, e5⟩ := cnt_facts hlt hs
      have w3 : IntKind.i64.wrap ((j : Int) + 3) = ((j + 3 : Nat) : Int) := by rw [wrap_small _ (by omega) (by omega)]; omega
      have hmin : List.take ((if (es.length : Int) < ((j + 3 : Nat) : Int) then (es.length : Int) else ((j + 3 : Nat) : Int)).toNat - (j + 1)) (es.drop (j + 1)) = (es.drop (j + 1)).take 2 := by
        by_cases h : (es.length : Int) < ((j + 3 : Nat) : Int)
        · rw [if_pos h, Int.toNat_natCast, List.take_of_length_le (by rw [List.length_drop]; omega), List.take_of_length_le (by rw [List.length_drop]; omega)]
        · rw [if_neg h, Int.toNat_natCast, show j + 3 - (j + 1) = 2 from by omega]
      have hsl : slb ((j + 1 : Nat) : Int) (if (es.length : Int) < ((j + 3 : Nat) : Int) then (es.length : Int) else ((j + 3 : Nat) : Int)) es.length = true := by
        by_cases h : (es.length : Int) < ((j + 3 : Nat) : Int)
        · rw [if_pos h]; exact slb_true (by omega) (by omega) (by omega)
        · rw [if_neg h]; exact slb_true (by omega) (by omega) (by omega)
      have hl2 : lenB (strAV ((es.drop (j + 1)).take 2)).length = true := decide_eq_true (by rw [strAV_len, List.length_take]; omega)
      have r1 : ∀ x : AV, roomB (out.length + [x].length) (Tryz.prog.bytesOf 5) = true := fun x => room5 (by show _ + 1 ≤ _; omega)
      have d1 : ∀ x : AV, decide (es.length ≤ 48000 ∧ (out ++ [x]).length ≤ j + 1 ∧ True) = true := fun x => decide_eq_true ⟨hb, by rw [List.length_append]; show _ + 1 ≤ _; omega, trivial⟩
      rw [drop_getD hlt, pD_cons]
      simp only [e1, e2, e3, w3, Int.toNat_natCast, hmin, hsl, hl2, e4, e5, hbb, r1, d1, cond_true, Bool.true_and]
      cases hA : iE (es.getD j .unk) == 61
      · simp only [Bool.false_and, cond_false, List.append_assoc]
        rfl
      · cases hO : okS (strAV ((es.drop (j + 1)).take 2))
        · simp only [Bool.and_false, cond_true, cond_false, List.append_assoc]
          rfl
        · have hge : 2 ≤ ((es.drop (j + 1)).take 2).length := by
            unfold okS at hO
            cases hd : decide (((strAV ((es.drop (j + 1)).take 2)).length : Int) < 2)
            · have := of_decide_eq_false hd
              rw [strAV_len] at this
              omega
            · rw [hd] at hO; cases hO
          rw [List.length_take, List.length_drop] at hge
          have w2 : IntKind.i64.wrap ((j : Int) + 2) = ((j + 2 : Nat) : Int) := by rw [wrap_small _ (by omega) (by omega)]; omega
          have w2' : IntKind.i64.wrap (((j + 2 : Nat) : Int) + 1) = ((j + 3 : Nat) : Int) := by rw [wrap_small _ (by omega) (by omega)]; omega
          have m2 : decide (((es.length : Int) - ((j + 3 : Nat) : Int)).toNat < ((es.length : Int) - (j : Int)).toNat) = true := decide_eq_true (by omega)
          have c2 : cnt (es.length : Int) ((j + 3 : Nat) : Int) es.length = true := and_tt (decide_eq_true rfl) (and_tt (decide_eq_true (by omega)) (and_tt (decide_eq_true (by omega)) (decide_eq_true hs)))
          have d3 : ∀ x : AV, decide (es.length ≤ 48000 ∧ (out ++ [x]).length ≤ j + 3 ∧ True) = true := fun x => decide_eq_true ⟨hb, by rw [List.length_append]; show _ + 1 ≤ _; omega, trivial⟩
          simp only [w2, w2', m2, c2, d3, Int.toNat_natCast, Bool.true_and, cond_true, List.drop_drop, List.append_assoc]
          rfl
    · obtain rfl : j = es.length := by omega
      rw [decide_eq_false (by omega), List.drop_length]
      show k _ _ _ = k _ _ [some (.arr false (.int .u8) 5 (out ++ []) none)]
      rw [List.append_nil]
  · cases h
def F124 : List AV → Tr AV
  | [.slv (.int .u8) es] => .gd (decide (es.length ≤ 48000) && es.all bE) (.leaf (.slv (.int .u8) (pD es)))
  | _ => .no
theorem ok124 : SumOK Tryz.prog 124 (ofT F124) ∧ SNat (ofT F124) := by
  refine fn1 (K := [(3, l124)]) (b := b124) (l := l124) g124 Tryz.func124 (by kernel_rfl) (by kernel_rfl) loop124 fun ρ avs k r h => ?_
  unfold F124 at h
  split at h
  · rename_i es
    obtain ⟨hc, hk⟩ := gd_some h
    obtain ⟨hs, hall⟩ := (Bool.and_eq_true _ _).mp hc
    have hs := of_decide_eq_true hs
    refine Eq.trans (b := bif cnt (↑es.length : Int) (0 : Int) es.length && (es.all bE && decide (es.length ≤ (48000 : Nat) ∧ ([] : List AV).length ≤ Int.toNat (0 : Int) ∧ ((3 : Nat), (900 : Nat), (5 : TypeId)).snd.snd = (5 : TypeId))) then k (AV.slv (Sh.int IntKind.u8) ([] ++ pD (List.drop (0 : Nat) es))) else none) (by kernel_rfl) ?_
    rw [← hk, hall]
    exact cond_t (and_t (cnt_zero (decide_eq_true (by omega))) (and_t rfl (decide_eq_true ⟨hs, Nat.le_refl 0, rfl⟩)))
  · cases h
end Go.Proofs.YtpmlhkoianekfaaGreatDoor

namespace Go.Proofs
open Go.Shelf
def Tryz.trimR_ren : Go.Shelf.Ren := ⟨fun | 7 => 122 | 10 => 171 | 11 => 172 | 13 => 173 | 15 => 174 | 16 => 222 | 19 => 223 | 18 => 224 | 21 => 215 | 17 => 181 | 20 => 227 | n => n, fun | 22 => 22 | 9 => 9 | 3 => 3 | 4 => 4 | 5 => 5 | 28 => 229 | 27 => 228 | 0 => 0 | 31 => 232 | 21 => 21 | 33 => 218 | 36 => 257 | 37 => 134 | 40 => 260 | 39 => 259 | n => n, fun | 0 => 0 | 1 => 1 | n => n⟩
theorem Tryz.trimR : Go.Proofs.SlLaysV.n7 Tryz.prog Tryz.trimR_ren := {
  mixed := by kernel_rfl
  f7 := Tryz.func122.trans (congrArg some (by kernel_rfl))
  f10 := Tryz.func171.trans (congrArg some (by kernel_rfl))
  f11 := Tryz.func172.trans (congrArg some (by kernel_rfl))
  f13 := Tryz.func173.trans (congrArg some (by kernel_rfl))
  f15 := Tryz.func174.trans (congrArg some (by kernel_rfl))
  f16 := Tryz.func222.trans (congrArg some (by kernel_rfl))
  f17 := Tryz.func181.trans (congrArg some (by kernel_rfl))
  f18 := Tryz.func224.trans (congrArg some (by kernel_rfl))
  f19 := Tryz.func223.trans (congrArg some (by kernel_rfl))
  f20 := Tryz.func227.trans (congrArg some (by kernel_rfl))
  f21 := Tryz.func215.trans (congrArg some (by kernel_rfl))
  t0 := Tryz.underlying0
  a0 := Tryz.isAgg0
  z0 := Tryz.sizeOf0
  v0 := Tryz.zeroValue0
  t3 := Tryz.underlying3
  a3 := Tryz.isAgg3
  z3 := Tryz.sizeOf3
  v3 := Tryz.zeroValue3
  t4 := Tryz.underlying4
  a4 := Tryz.isAgg4
  z4 := Tryz.sizeOf4
  v4 := Tryz.zeroValue4
  t5 := Tryz.underlying5
  a5 := Tryz.isAgg5
  z5 := Tryz.sizeOf5
  v5 := Tryz.zeroValue5
  t9 := Tryz.underlying9
  a9 := Tryz.isAgg9
  z9 := Tryz.sizeOf9
  v9 := Tryz.zeroValue9
  t21 := Tryz.underlying21
  a21 := Tryz.isAgg21
  z21 := Tryz.sizeOf21
  v21 := Tryz.zeroValue21
  t22 := Tryz.underlying22
  a22 := Tryz.isAgg22
  z22 := Tryz.sizeOf22
  v22 := Tryz.zeroValue22
  t27 := Tryz.underlying228
  a27 := Tryz.isAgg228
  z27 := Tryz.sizeOf228
  t28 := Tryz.underlying229
  a28 := Tryz.isAgg229
  z28 := Tryz.sizeOf229
  v28 := Tryz.zeroValue229
  t31 := Tryz.underlying232
  a31 := Tryz.isAgg232
  z31 := Tryz.sizeOf232
  v31 := Tryz.zeroValue232
  t33 := Tryz.underlying218
  a33 := Tryz.isAgg218
  z33 := Tryz.sizeOf218
  v33 := Tryz.zeroValue218
  t36 := Tryz.underlying257
  a36 := Tryz.isAgg257
  z36 := Tryz.sizeOf257
  t37 := Tryz.underlying134
  a37 := Tryz.isAgg134
  z37 := Tryz.sizeOf134
  v37 := Tryz.zeroValue134
  t39 := Tryz.underlying259
  a39 := Tryz.isAgg259
  z39 := Tryz.sizeOf259
  v39 := Tryz.zeroValue259
  t40 := Tryz.underlying260
  a40 := Tryz.isAgg260
  z40 := Tryz.sizeOf260
  v40 := Tryz.zeroValue260 }
end Go.Proofs
namespace Go.Proofs.YtpmlhkoianekfaaGreatDoor
open Go.Ev Go.RowKit
theorem sum_slv {f : Nat} (hb : hasBody Tryz.prog f = true) {p : List AV → Tr AV}
    (h : ∀ (ρ : Type) (w : World) (S : Nat → Prop) (avs : List AV) (args : List Value) (k : AV → Option ρ) (r : ρ), Facts w → (∀ b, S b → b < w.heap.size) → VRels w S nob avs args → (p avs).run k = some r →
      ∃ u v, k v = some r ∧ VRel w S nob v u ∧ Calls Tryz.prog f args.toArray w (fun e w' => e = .returned u ∧ Below w.heap.size w w')) : SumOK Tryz.prog f (ofT p) ∧ SNat (ofT p) := by
  refine ⟨fun ρ w S avs args k r hS hv hk => ?_, snat_ofT p⟩
  obtain ⟨u, v, hk', hv', hc⟩ := h ρ w S avs args k r (hS.2 w (Kept.refl _ _)) hS.1 hv hk
  refine .inl ⟨hb, hc.mono fun e w' hq => ?_⟩
  refine ⟨u, v, S, hq.1, hk', hq.2, fun _ h => .inl h, fun b h => Nat.lt_of_lt_of_le (hS.1 b h) hq.2.size, ?_⟩
  exact hv'.mono (fun _ h => h) (fun b h => hq.2.block b (hS.1 b h)) (fun _ _ h => h)
theorem bytes_in {w : World} {l : List Int} {A : Option Addr} {a : Addr} (hA : l.map (AV.int .u8) ≠ [] → A = some a) (hx : ∀ (j : Nat) (u : Value), (l.map (Value.int .u8))[j]? = some u → w.cell? (a.add j) = some u) : Lib.BytesIn w A l.length l := by
  cases hl : l with
  | nil => exact Lib.BytesIn.nil w A []
  | cons x xs =>
    rw [← hl, hA (by rw [hl]; intro h; cases h)]
    refine Lib.BytesIn.of_cells fun i hi => hx i _ ?_
    rw [List.getElem?_map, List.getElem?_eq_getElem hi, List.getD, List.getElem?_eq_getElem hi]
    rfl
theorem slv_bytes {w : World} {S : Nat → Prop} {es : List AV} {v : Value} (h : VRel w S nob (.slv (.int .u8) es) v) : ∃ (l : List Int) (A : Option Addr) (c : Nat), es = l.map (AV.int .u8) ∧ v = .slice A l.length c ∧ l.length ≤ c ∧ c ≤ maxLen ∧ Lib.BytesIn w A l.length l := by
  obtain ⟨A, c, a, xs, rfl, hs, hc, hm, hA, hv, h1, hx⟩ := h.slv_inv
  have e1 := ints_of hs
  generalize es.map AV.toInt = l at e1
  subst e1
  rw [flat_ints] at hv
  obtain rfl := ints_vals hv
  rw [List.length_map] at hc ⊢
  exact ⟨l, A, c, rfl, rfl, hc, hm, bytes_in (fun h => (hA h).1) hx⟩
theorem bytes_rng {l : List Int} (hl : (l.map (AV.int .u8)).all bE = true) : ∀ x ∈ l, 0 ≤ x ∧ x < 256 := fun x hx => by
  have := List.all_eq_true.1 hl _ (List.mem_map_of_mem hx)
  unfold bE at this
  simp only [Bool.and_eq_true] at this
  obtain ⟨q0, q1⟩ := inR_spec this.2
  exact ⟨q0, Int.lt_of_le_of_lt q1 (by decide)⟩
def hsC (es : List AV) (c : Int) : Bool := Lib.hasSuffix (strAV es) (strAV [.int .u8 c])
def F123 : List AV → Tr AV
  | [.slv (.int .u8) es, .slv (.int .u8) [.int .u8 c]] => .gd (decide (es.length ≤ 9223372036854775807)) (.leaf (.bool (hsC es c)))
  | _ => .no
theorem ok123 : SumOK Tryz.prog 123 (ofT F123) ∧ SNat (ofT F123) := by
  refine sum_flat (by kernel_rfl) fun ρ w S avs args k r hF hS hv h => ?_
  unfold F123 at h
  split at h
  · rename_i es b
    obtain ⟨hc, h⟩ := gd_some h
    have hn := of_decide_eq_true hc
    obtain ⟨v, vs, rfl, h1, hv⟩ := hv.inv
    obtain ⟨u, us, rfl, h2, hv⟩ := hv.inv
    obtain rfl := hv.inv_nil
    obtain ⟨l, A, c, rfl, rfl, hlc, -, hb1⟩ := slv_bytes h1
    obtain ⟨m, B, d, hm, rfl, -, -, hb2⟩ := slv_bytes h2
    rw [List.length_map] at hn
    refine ⟨_, _, h, rfl, .bool _ _, (Tryz.bytes_HasSuffix_all A B l.length c m.length d l m w rfl rfl hlc hn hb1 hb2).mono fun e w' hq => ⟨?_, hq.2 ▸ Below.refl _ _⟩⟩
    rw [hq.1, bytesOf_str, bytesOf_str, ← hm]
    rfl
  · cases h
def F108 : List AV → Tr AV
  | [.slv (.int .u8) es, .int .u8 c] => .gd (decide (0 < es.length)) (.leaf (.int .i64 (Lib.indexByte (strAV es) c.toNat.toUInt8)))
  | _ => .no
theorem ok108 : SumOK Tryz.prog 108 (ofT F108) ∧ SNat (ofT F108) := by
  refine sum_flat (by kernel_rfl) fun ρ w S avs args k r hF hS hv h => ?_
  unfold F108 at h
  split at h
  · rename_i es c
    obtain ⟨hc, h⟩ := gd_some h
    have hn := of_decide_eq_true hc
    obtain ⟨v, vs, rfl, h1, hv⟩ := hv.inv
    obtain ⟨u, us, rfl, h2, hv⟩ := hv.inv
    obtain rfl := hv.inv_nil
    obtain ⟨l, A, cc, rfl, rfl, hlc, -, hb1⟩ := slv_bytes h1
    rw [h2.int_inv]
    rw [← bytesOf_str] at h
    rw [List.length_map] at hn
    obtain ⟨b, o, rfl, hx⟩ := hb1 hn
    exact ⟨_, _, h, rfl, .int _ _ _, (Tryz.bytes_IndexByte b o _ cc _ c w rfl hx).mono fun e w' hq => ⟨hq.1, hq.2 ▸ Below.refl _ _⟩⟩
  · cases h
def F122 : List AV → Tr AV
  | [.slv (.int .u8) es, .str cs] => .gd (es.all bE && (decide (cs.length ≤ 1000) && cs.all fun b => decide (b.toNat < 128))) (.leaf (.slv (.int .u8) (es.take (Lib.trimRightS (strAV es) cs).length)))
  | _ => .no
theorem trimR_len (l cs : List UInt8) : (Lib.trimRightS l cs).length ≤ l.length := by
  unfold Lib.trimRightS
  rw [List.length_reverse]
  exact Nat.le_trans (List.dropWhile_sublist _).length_le (by rw [List.length_reverse]; exact Nat.le_refl _)
theorem ok122 : SumOK Tryz.prog 122 (ofT F122) ∧ SNat (ofT F122) := by
  refine sum_slv (by kernel_rfl) fun ρ w S avs args k r hF hS hv h => ?_
  unfold F122 at h
  split at h
  · rename_i es cs
    obtain ⟨hc, h⟩ := gd_some h
    simp only [Bool.and_eq_true] at hc
    obtain ⟨hall, h1000, hasc⟩ := hc
    have h1000 := of_decide_eq_true h1000
    obtain ⟨v, vs, rfl, h1, hv⟩ := hv.inv
    obtain ⟨u, us, rfl, h2, hv⟩ := hv.inv
    obtain rfl := hv.inv_nil
    have hp := slv_part h1 nob (l := 0) (hh := (Lib.trimRightS (strAV es) cs).length) (Nat.zero_le _) (Nat.le_trans (trimR_len _ _) (by rw [strAV_len]; exact Nat.le_refl _))
    obtain ⟨l, A, c, rfl, rfl, hlc, hmx, hb1⟩ := slv_bytes h1
    rw [h2.str_inv]
    obtain ⟨A', c', he, hle, hp⟩ := hp
    injection he with e1 e2 e3
    subst e1 e3
    refine ⟨_, _, h, ?_, (Any.bytes_TrimRight_laid Tryz.trimR (by kernel_rfl) A l.length c l ⟨cs.toArray⟩ w rfl hlc (by show c ≤ _; exact Nat.le_trans hmx (by decide)) hb1 (bytes_rng hall) (by rw [size_mk]; omega) (fun j b hj => ?_)).mono fun e w' hq => ⟨hq.1, hq.2⟩⟩
    · have hA0 : ∀ q : Nat, (if c = 0 then A else A.map (·.add (0 * q))) = A := fun q => by
        split
        · rfl
        · cases A with
          | none => rfl
          | some a => show some (a.add (0 * q)) = some a; rw [Nat.zero_mul]; rfl
      rw [hA0, Nat.sub_zero, Nat.sub_zero, List.drop_zero, ← bytesOf_str] at hp
      rw [← bytesOf_str]
      exact hp
    · have := List.all_eq_true.1 hasc b (List.mem_of_getElem? hj)
      exact of_decide_eq_true this
  · cases h
end Go.Proofs.YtpmlhkoianekfaaGreatDoor
