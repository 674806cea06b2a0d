/-
  The operations on parts of slices of the call's own: parts, indexes, capacities, copies.
-/
import Derived.Test.YtpgaobdgohlegaaEvM
namespace Go.Ev
open Go.RowKit

section ops
variable {ρ : Type} {P : Program} {w0 w : World} {S0 S : Nat → Prop} {B : Ctx} {β : Bet} {og : Nat → Option Nat} {st : St} {a : Act} {o : Oper} {site : Nat} {y : Eff → Option ρ} {r : ρ}
  {K : Act → World → Prop} {Q : Exit → Act → World → Prop}

/-- The slice that a row is. -/
theorem arr_val {B : Nat → Prop} {id : Nat} {o : Option Nat} {im : Bool} {s : Sh} {e : TypeId} {es : List AV} {csp : Option (List AV)} (h : RowRel w S B β id o (.arr im s e es csp)) :
    ∃ A c, β id = some (.slice A es.length c, s.width) ∧ es.length ≤ c ∧ (∀ l, csp = some l → c = es.length + l.length) ∧ (0 < c → ∃ g, A = some ⟨g, 0, none⟩ ∧ o = some g) := by
  obtain ⟨hp, v, sp, xs, hshS, hcs, hbt, h1, hvs, hor⟩ := h
  rcases hor with ⟨rfl, rfl, _, A, rfl⟩ | ⟨g, ho, rfl, _⟩
  · exact ⟨A, 0, hbt, Nat.le_refl _, fun l hl => by rw [hcs l hl]; rfl, fun h => absurd h (Nat.lt_irrefl _)⟩
  · exact ⟨_, _, hbt, by omega, fun l hl => by rw [hcs l hl], fun _ => ⟨g, rfl, ho⟩⟩

theorem own_val {id : Nat} {v u : Value} {wd : Nat} (hb : β id = some (v, wd)) (h : VRel w S β (.own id) u) : u = v := by
  cases h with
  | own _ _ _ wd' hb' => rw [hb] at hb'; simp only [Option.some.injEq, Prod.mk.injEq] at hb'; exact hb'.1.symm
theorem sub_val {id lo n len c wd : Nat} {A : Option Addr} {u : Value} (hb : β id = some (.slice A len c, wd)) (h : VRel w S β (.sub id lo n) u) : u = .slice (if c = lo then A else A.map (·.add (lo * wd))) n (c - lo) := by
  cases h with
  | sub _ _ _ _ A' n' c' wd' hb' => rw [hb] at hb'; simp only [Option.some.injEq, Prod.mk.injEq, Value.slice.injEq] at hb'; obtain ⟨⟨rfl, rfl, rfl⟩, rfl⟩ := hb'; rfl

theorem op_slice_sub (hR : Rel w S B β og st a) (hO : Out w0 S0 B w S) {t e e' : TypeId} {x : Operand} {lo hi : Option Operand} {id : Nat} {im : Bool} {s : Sh} {es : List AV} {csp : Option (List AV)} (ho : o.op = .slice t x lo hi none) (ht : P.underlying t = some (.slice e)) (hx : val st.tm x = .own id)
    (hl : lookup st.rows id = some (.arr im s e' es csp)) (hsz : sizeOK P e s = true) (hlo : optIsInt (lo.map (val st.tm)) = true) (hh : optIsInt (hi.map (val st.tm)) = true) (hb : slb (optInt (lo.map (val st.tm)) 0) (optInt (hi.map (val st.tm)) es.length) es.length = true)
    (hy : y { v := .sub id (optInt (lo.map (val st.tm)) 0).toNat ((optInt (hi.map (val st.tm)) es.length).toNat - (optInt (lo.map (val st.tm)) 0).toNat) } = some r) (hK : Good w0 S0 B site o st y r K) : o.wp P a w K Q := by
  have h := val_rel hR.tm x
  rw [hx] at h
  obtain ⟨A, c, hbt, hc, _, _⟩ := arr_val (hR.row id _ hl)
  have he := own_val hbt h
  obtain ⟨i, hi', hiw⟩ := sizeOK_spec hsz
  refine op_slot hR hO (.sub _ id _ _ A es.length c s.width hbt) hy hK ?_
  have hbd := run_bounds (P := P) (w := w) hR.tm hlo hh true es.length c hc hb
  simp [execOp, ho, he, Instr.sliceAt, run_underlying ht, Instr.slice, hbd, sizeOf, typeInfo, hi', hiw]

theorem op_slice_ext (hR : Rel w S B β og st a) (hO : Out w0 S0 B w S) (hf : Fresh site st.used) {t e e' : TypeId} {x : Operand} {hi : Option Operand} {id : Nat} {s : Sh} {es l : List AV} (ho : o.op = .slice t x none hi none) (ht : P.underlying t = some (.slice e)) (hx : val st.tm x = .own id)
    (hl : lookup st.rows id = some (.arr false s e' es (some l))) (hsz : sizeOK P e s = true) (hh : optIsInt (hi.map (val st.tm)) = true) (h1 : (es.length : Int) ≤ optInt (hi.map (val st.tm)) es.length) (h2 : optInt (hi.map (val st.tm)) es.length ≤ (es.length : Int) + l.length)
    (hy : y { v := .own site, new := some (.arr false s e' (es ++ l.take ((optInt (hi.map (val st.tm)) es.length).toNat - es.length)) (some (l.drop ((optInt (hi.map (val st.tm)) es.length).toNat - es.length)))), del := some id } = some r) (hK : Good w0 S0 B site o st y r K) : o.wp P a w K Q := by
  have h := val_rel hR.tm x
  rw [hx] at h
  obtain ⟨hp, v, sp, xs, hshS, hcs, hbt, h1c, hvs, hor⟩ := hR.row id _ hl
  have hlsp : l = sp := hcs l rfl
  subst hlsp
  have he := own_val hbt h
  obtain ⟨i, hi', hiw⟩ := sizeOK_spec hsz
  generalize hn : optInt (hi.map (val st.tm)) es.length = n at *
  have hsplit : (es ++ l.take (n.toNat - es.length)) ++ l.drop (n.toNat - es.length) = es ++ l := by rw [List.append_assoc, List.take_append_drop]
  have hlen : (es ++ l.take (n.toNat - es.length)).length = n.toNat := by simp; omega
  have hlen2 : (l.drop (n.toNat - es.length)).length = es.length + l.length - n.toNat := by simp; omega
  have hrunB : ∀ (A : Option Addr), (Instr.sliceBounds true es.length (es.length + l.length) none (hi.map a.eval) none).run P w = .ok (0, n.toNat, es.length + l.length) w := by
    intro A
    rcases optInt_some hR.tm hh es.length with ⟨rfl, e1⟩ | ⟨z, k, rfl, e1⟩
    · rw [hn] at e1
      subst e1
      simp [Instr.sliceBounds]
    · rw [hn] at e1
      have hb := fun c => run_sliceBound (P := P) (w := w) (k := k) (n := n) (m := es.length + l.length) c (by omega) (by omega)
      simp [Instr.sliceBounds, e1, hb]
  rcases hor with ⟨he0, hsp0, hogn, A, rfl⟩ | ⟨g, hog, rfl, hBg, hh', hmx, hi1, _⟩
  · subst he0
    subst hsp0
    have hn0 : n = 0 := by simp at h1 h2; omega
    subst hn0
    refine wp_value (u := .slice A 0 0) (w' := w) ?_ (hK _ _ _ hy ⟨S, _, _, hR.moved (id := id) hf o.dst (World.grownBy.refl w _) (fun g hg => by rw [hogn] at hg; cases hg) (x := .slice A 0 0) (wd := s.width) (o' := none) rfl (fun g hg => by cases hg)
      ⟨hp, .slice A 0 0, [], [], by simp, (fun c h => by simp at h; exact h), upd_same _ _ _, by simp, VRels.nil, .inl ⟨rfl, rfl, rfl, A, rfl⟩⟩ (.own _ site _ _ (upd_same _ _ _)), hO⟩)
    have := hrunB A
    simp at this
    simp [execOp, ho, he, Instr.sliceAt, run_underlying ht, Instr.slice, this, sizeOf, typeInfo, hi', hiw]
  · refine wp_value (u := .slice (some ⟨g, 0, none⟩) n.toNat (es.length + l.length)) (w' := w) ?_ (hK _ _ _ hy ⟨S, _, _, hR.moved (id := id) hf o.dst (World.grownBy.refl w _) (fun g' hg' => by rw [hog] at hg'; cases hg'; exact hi1 rfl) (x := .slice (some ⟨g, 0, none⟩) n.toNat (es.length + l.length)) (wd := s.width) (o' := some g) rfl
      (fun x hx => by cases hx; exact ⟨.inl hog, hR.lt id g hog⟩) ?_ (.own _ site _ _ (upd_same _ _ _)), hO⟩)
    · have := hrunB none
      have h0 : (⟨g, 0, none⟩ : Addr).add 0 = ⟨g, 0, none⟩ := by simp [Addr.add]
      simp [execOp, ho, he, Instr.sliceAt, run_underlying ht, Instr.slice, this, sizeOf, typeInfo, hi', hiw, h0]
    · refine ⟨hp, _, l.drop (n.toNat - es.length), xs, by rw [hsplit]; exact hshS, (fun c h => by simp at h; exact h.symm), upd_same _ _ _, h1c, by rw [hsplit]; exact hvs, .inr ⟨g, rfl, ?_, hBg, hh', ?_, hi1, (fun h => by cases h)⟩⟩
      · rw [hlen, hlen2]; congr 1; omega
      · rw [hlen, hlen2]; omega

theorem op_indexAddr_sub (hR : Rel w S B β og st a) (hO : Out w0 S0 B w S) {t e e' : TypeId} {x i : Operand} {id lo len : Nat} {im : Bool} {s : Sh} {es : List AV} {k : IntKind} {n : Int} (ho : o.op = .indexAddr t x i) (ht : P.underlying t = some (.slice e)) (hx : val st.tm x = .sub id lo len)
    {csp : Option (List AV)} (hl : lookup st.rows id = some (.arr im s e' es csp)) (hi : val st.tm i = .int k n)
    (hsz : sizeOK P e s = true) (hb : inb n len = true) (hle : lo + len ≤ es.length) (hy : y { v := .eptr id (lo + n.toNat) 0 } = some r) (hK : Good w0 S0 B site o st y r K) : o.wp P a w K Q := by
  have h := val_rel hR.tm x
  rw [hx] at h
  have h' := val_rel hR.tm i
  rw [hi] at h'
  obtain ⟨b0, b1, b2⟩ := inb_spec hb
  obtain ⟨A, c, hbt, hc, _, hA⟩ := arr_val (hR.row id _ hl)
  obtain ⟨g, rfl, _⟩ := hA (by omega)
  have he := sub_val hbt h
  rw [if_neg (by omega)] at he
  obtain ⟨ii, hii, hiw⟩ := sizeOK_spec hsz
  refine op_slot (u := .pointer (some ⟨g, (lo + n.toNat) * s.width + 0, none⟩)) hR hO (.eptr _ id (lo + n.toNat) 0 g _ _ _ hbt) hy hK ?_
  simp [execOp, ho, he, h'.int_inv, Instr.indexAt, asIntOf, run_underlying ht, b0, b1, sizeOf, typeInfo, hii, hiw, add_lit', Nat.add_mul]

theorem op_cap (hR : Rel w S B β og st a) (hO : Out w0 S0 B w S) {rowsV : List (Nat × Row)} (hsub : ∀ id x, lookup rowsV id = some x → lookup st.rows id = some x) {args : Array Operand} {ts : Array TypeId} {t e e' : TypeId} {tr : List TypeId} {id : Nat} {im : Bool} {s : Sh} {es l : List AV}
    (ho : o.op = .call { callee := .builtin .cap, args := args, argTypes := ts }) (hts : ts.toList = t :: tr) (hx : valsT P st.tm ts.toList args.toList = [.own id]) (ht : P.underlying t = some (.slice e)) (hl : lookup rowsV id = some (.arr im s e' es (some l)))
    (hy : y { v := .int .i64 (es.length + l.length) } = some r) (hK : Good w0 S0 B site o st y r K) : o.wp P a w K Q := by
  have hv := valsT_rel hR.tm P ts.toList args.toList
  rw [hx] at hv
  obtain ⟨u, us, he, hu, hn⟩ := hv.inv
  rw [hn.inv_nil] at he
  have hm := map_eval args _ he
  have ht0 : ts[0]? = some t := by rw [← Array.getElem?_toList, hts]; rfl
  obtain ⟨A, c, hbt, hc, hcl, _⟩ := arr_val (hR.row id _ (hsub _ _ hl))
  have hcc := hcl l rfl
  subst hcc
  have hu' := own_val hbt hu
  refine op_slot hR hO (.int _ _ _) hy hK ?_
  simp [execOp, ho, resolve, invoke, builtin, hm, Builtin.cap_, ht0, run_underlying ht, goInt, hu']

/-- Elements of a row are written. -/
theorem row_splice {B : Nat → Prop} {id : Nat} {o : Option Nat} {s : Sh} {e : TypeId} {es ds : List AV} {csp : Option (List AV)} (hSlt : ∀ b, S b → b < w.heap.size) (h : RowRel w S B β id o (.arr false s e es csp)) {lo : Nat} {us : List Value} (hds : ∀ x ∈ ds, hasSh s x = true) (hus : VRels w S nob (flat ds) us)
    (h1u : ∀ u ∈ us, u.oneCell' = true) (hle : lo + ds.length ≤ es.length) (hne : ds ≠ []) :
    ∃ g xs c, o = some g ∧ ¬ S g ∧ ¬ B g ∧ β id = some (.slice (some ⟨g, 0, none⟩) es.length c, s.width) ∧ es.length ≤ c ∧ w.heap[g]? = some (.cells (List.toArray xs) e (0, 0)) ∧ lo * s.width + us.length ≤ xs.length ∧ us.length = ds.length * s.width ∧
      RowRel (w.setRow g (xs.take (lo * s.width) ++ us ++ xs.drop (lo * s.width + us.length)).toArray) S B β id o (.arr false s e (es.take lo ++ (ds ++ es.drop (lo + ds.length))) csp) := by
  obtain ⟨hp, v, sp, xs, hshS, hcs, hbt, h1, hvs, hor⟩ := h
  have hpos : 0 < ds.length := List.length_pos_iff.2 hne
  rcases hor with ⟨rfl, _⟩ | ⟨g, ho, rfl, hBg, hh, hmx, him, _⟩
  · simp at hle; exact absurd hle.2 (by simpa using hne)
  · have hul : us.length = ds.length * s.width := by rw [hus.1, flat_length ds hds]
    have hxl : xs.length = (es.length + sp.length) * s.width := by rw [hvs.1, flat_length _ hshS, List.length_append]
    have hfit : lo * s.width + us.length ≤ xs.length := by
      rw [hul, hxl, ← Nat.add_mul]
      exact Nat.mul_le_mul_right _ (by omega)
    have hgr := grownBy_setRow w g (xs.take (lo * s.width) ++ us ++ xs.drop (lo * s.width + us.length)).toArray
    have hwk : ∀ b, S b → (w.setRow g (xs.take (lo * s.width) ++ us ++ xs.drop (lo * s.width + us.length)).toArray).heap[b]? = w.heap[b]? := fun b hs => hgr.block b (hSlt b hs) (fun e => by cases e; exact him rfl hs)
    have hlen : (es.take lo ++ (ds ++ es.drop (lo + ds.length))).length = es.length := by simp; omega
    refine ⟨g, xs, _, ho, him rfl, hBg, hbt, by omega, hh, hfit, hul, hp, _, sp, xs.take (lo * s.width) ++ us ++ xs.drop (lo * s.width + us.length), fun y hy => ?_, hcs, hbt, fun u hu => ?_, ?_, .inr ⟨g, ho, by rw [hlen], hBg, setRow_heap w g _ _ e _ hh, by rw [hlen]; exact hmx, fun _ => him rfl, (fun h => by cases h)⟩⟩
    · simp only [List.mem_append] at hy
      rcases hy with (hy | hy | hy) | hy
      · exact hshS y (List.mem_append_left _ (List.mem_of_mem_take hy))
      · exact hds y hy
      · exact hshS y (List.mem_append_left _ (List.mem_of_mem_drop hy))
      · exact hshS y (List.mem_append_right _ hy)
    · simp only [List.mem_append] at hu
      rcases hu with (hu | hu) | hu
      · exact h1 u (List.mem_of_mem_take hu)
      · exact h1u u hu
      · exact h1 u (List.mem_of_mem_drop hu)
    · refine VRels.mono (w := w) (S := S) (β := nob) ?_ (fun _ h => h) hwk (fun _ _ h => h)
      have e1 : flat ((es.take lo ++ (ds ++ es.drop (lo + ds.length))) ++ sp) = (flat (es ++ sp)).take (lo * s.width) ++ flat ds ++ (flat (es ++ sp)).drop (lo * s.width + us.length) := by
        have hshE : ∀ x ∈ es, hasSh s x = true := fun x hx => hshS x (List.mem_append_left _ hx)
        have f1 : (flat (es ++ sp)).take (lo * s.width) = flat (es.take lo) := by
          rw [← flat_take (s := s) _ _ hshS, List.take_append_of_le_length (by omega)]
        have f2 : (flat (es ++ sp)).drop (lo * s.width + us.length) = flat (es.drop (lo + ds.length) ++ sp) := by
          rw [hul, ← Nat.add_mul, ← flat_drop (s := s) _ _ hshS, List.drop_append_of_le_length (by omega)]
        rw [f1, f2]
        simp [flat]
      rw [e1]
      exact ((hvs.take _).append hus).append (hvs.drop _)

theorem take_drop_all (es : List AV) (lo : Nat) : es.take lo ++ (([] : List AV) ++ es.drop (lo + 0)) = es := by simp

theorem op_copy (hR : Rel w S B β og st a) (hO : Out w0 S0 B w S) {rowsV : List (Nat × Row)} (hsub : ∀ id x, lookup rowsV id = some x → lookup st.rows id = some x) {args : Array Operand} {ts : Array TypeId} {t e e' : TypeId} {id lo len : Nat} {s : Sh} {z : AV} {es es2 : List AV} {csp : Option (List AV)}
    (ho : o.op = .call { callee := .builtin .copy, args := args, argTypes := ts }) (hts : ts.toList = [t, t]) (hx : valsT P st.tm ts.toList args.toList = [.sub id lo len, z]) (ht : P.underlying t = some (.slice e)) (hl : lookup rowsV id = some (.arr false s e' es csp)) (hz : elemsOf rowsV z = some (s, es2)) (hsz : sizeOK P e s = true) (hle : lo + len ≤ es.length)
    (hy : y { v := .int .i64 (min len es2.length : Nat), mod := some (id, .arr false s e' (es.take lo ++ (es2.take (min len es2.length) ++ es.drop (lo + min len es2.length))) csp) } = some r) (hK : Good w0 S0 B site o st y r K) : o.wp P a w K Q := by
  have hv := valsT_rel hR.tm P ts.toList args.toList
  rw [hx] at hv
  obtain ⟨u, us, he, hu, hs1⟩ := hv.inv
  obtain ⟨u2, us2, rfl, hu2, hn⟩ := hs1.inv
  rw [hn.inv_nil] at he
  have hm := map_eval args _ he
  have htt : ts = #[t, t] := by apply Array.ext'; simpa using hts
  obtain ⟨ii, hii, hiw⟩ := sizeOK_spec hsz
  obtain ⟨A2, c2, ad, xs2, rfl, hsh2, hA2, hvs2, h12, hcell, hlm⟩ := elems_sound hR hsub hz hu2
  have hrow := hR.row id _ (hsub _ _ hl)
  obtain ⟨A, c, hbt, hc, _, hA⟩ := arr_val hrow
  have hu' := sub_val hbt hu
  have hexec : ∀ (x : Value) (w' : World), (Builtin.copy_ #[t, t] o.type #[u, .slice A2 es2.length c2]).run P w = .ok x w' → (execOp a.eval o).run P w = .ok (.value x) w' := fun x w' hrun => by
    simp only [execOp, ho, resolve, invoke, builtin, hm, htt, Sem.run_bind, Sem.run_pure, Result.andThen_ok, hrun]
  generalize hmm : min len es2.length = m at hy
  have hml : m ≤ len := by omega
  have hm2 : m ≤ es2.length := by omega
  have hmin : Nat.min es2.length len = m := by show min es2.length len = m; omega
  clear hmm
  by_cases h0 : m = 0
  · rw [h0] at hy
    simp only [List.take_zero] at hy
    rw [take_drop_all] at hy
    rw [h0] at hmin
    have hfc : ∀ x : Value, (Builtin.firstCells ii.size 0 (.slice A2 es2.length c2)).run P w = .ok #[] w := by
      intro x
      cases A2 <;> simp [Builtin.firstCells, loadCells, loadCellsFrom]
    have hrun : (Builtin.copy_ #[t, t] o.type #[u, .slice A2 es2.length c2]).run P w = .ok (goInt 0) w := by
      rw [hu']
      generalize (if c = lo then A else A.map (·.add (lo * s.width))) = A'
      cases A' <;> simp [Builtin.copy_, run_underlying ht, Builtin.lenOf, sizeOf, typeInfo, hii, hmin, hfc undef, storeCells]
    have hM := hR.modify (id := id) (w' := w) (World.grownBy.refl w _) rfl (fun g hg => by
      obtain ⟨_, _, _, _, _, _, _, _, _, hor⟩ := hrow
      rcases hor with ⟨_, _, hogn, _⟩ | ⟨g', hog, _, _, _, _, him, _⟩
      · rw [hogn] at hg; cases hg
      · rw [hog] at hg; cases hg; exact him rfl) hrow
    refine wp_value (hexec _ _ hrun) (hK _ _ _ hy ⟨S, β, og, hM.put o.dst (.int _ _ _), hO⟩)
  · have hne : es2.take (m) ≠ [] := by
      intro h
      have := congrArg List.length h
      rw [List.length_take, List.length_nil] at this
      omega
    have hdl : (es2.take (m)).length = m := by rw [List.length_take]; omega
    have hne2 : es2 ≠ [] := by rintro rfl; simp at hne
    have hA2' := hA2 hne2
    subst hA2'
    have hus : VRels w S nob (flat (es2.take (m))) (xs2.take (m * s.width)) := by
      rw [flat_take (s := s) _ _ hsh2]; exact hvs2.take _
    obtain ⟨g, xs, c', hog, hSg, hBg, hbt', hc', hh, hfit, hul, hrow'⟩ := row_splice hR.Slt hrow (lo := lo) (ds := es2.take (m)) (fun x hx => hsh2 x (List.mem_of_mem_take hx)) hus (fun u hu => h12 u (List.mem_of_mem_take hu)) (by rw [hdl]; omega) hne
    rw [hbt] at hbt'
    simp only [Option.some.injEq, Prod.mk.injEq, Value.slice.injEq, and_true, true_and] at hbt'
    obtain ⟨rfl, rfl⟩ := hbt'
    rw [hdl] at hrow' hul
    have hgr := grownBy_setRow w g (xs.take (lo * s.width) ++ xs2.take (m * s.width) ++ xs.drop (lo * s.width + (xs2.take (m * s.width)).length)).toArray
    have hM := hR.modify (id := id) (by rw [hog]; exact hgr) (by simp [World.setRow]) (fun g' hg' => by rw [hog] at hg'; cases hg'; exact hSg) hrow'
    have hst := run_storeCells_at P g (lo * s.width) e' (xs2.take (m * s.width)) 0 xs.toArray w hh (by simp only [List.size_toArray, Nat.add_zero]; exact hfit) (fun u hu => h12 u (List.mem_of_mem_take hu))
    simp only [Nat.add_zero] at hst
    have hx2l : m * s.width ≤ xs2.length := by
      rw [hvs2.1, flat_length es2 hsh2]
      exact Nat.mul_le_mul_right _ (by omega)
    have hld := run_loadCells_take (P := P) w ad xs2 (m * s.width) hx2l hcell
    have hrun : (Builtin.copy_ #[t, t] o.type #[u, .slice (some ad) es2.length c2]).run P w = .ok (goInt (m : Int)) (w.setRow g (xs.take (lo * s.width) ++ xs2.take (m * s.width) ++ xs.drop (lo * s.width + (xs2.take (m * s.width)).length)).toArray) := by
      rw [hu', if_neg (by omega)]
      simp only [Option.map_some, add_lit', Nat.zero_add]
      simp [Builtin.copy_, run_underlying ht, Builtin.lenOf, Builtin.firstCells, sizeOf, typeInfo, hii, hiw, hmin, hld, hst]
    refine wp_value (hexec _ _ hrun) (hK _ _ _ hy ⟨S, β, og, hM.put o.dst (.int _ _ _), hO.grownBy hR.Ble hgr (fun k hk => by cases hk; exact hBg)⟩)

end ops
end Go.Ev
