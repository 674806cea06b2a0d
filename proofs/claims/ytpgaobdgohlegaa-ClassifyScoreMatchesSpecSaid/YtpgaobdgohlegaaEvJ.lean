/-
  The operations, fifth part: append onto a slice of the call's own; stores.
-/
import Derived.Test.YtpgaobdgohlegaaEvI
namespace Go.Ev
open Go.RowKit

section ops
variable {ρ : Type} {P : Program} {w0 w : World} {S0 S : Nat → Prop} {B : Ctx} {β : Bet} {og : Nat → Option Nat} {st : St} {a : Act} {o : Oper} {site : Nat} {y : Eff → Option ρ} {r : ρ}
  {K : Act → World → Prop} {Q : Exit → Act → World → Prop}

theorem Out.grownBy (hO : Out w0 S0 B w S) {w' : World} {row : Option Nat} (hB : ∀ b, B b → b < w.heap.size) (hg : w.grownBy w' row) (hr : ∀ k, row = some k → ¬ B k) : Out w0 S0 B w' S :=
  ⟨hO.bel.trans (Kept.of_grown hg hB hr), hO.sin, hO.sub⟩

theorem run_append_zero (t ty e : TypeId) (i : TypeInfo) (ht : P.underlying t = some (.slice e)) (hi : P.info? e = some i) (g n cap : Nat) (A2 : Option Addr) (c2 : Nat) (hc : n ≤ cap) :
    (Builtin.append_ #[t, t] ty #[.slice (some ⟨g, 0, none⟩) n cap, .slice A2 0 c2]).run P w = .ok (.slice (some ⟨g, 0, none⟩) n cap) w := by
  cases A2 <;> simp [Builtin.append_, run_underlying ht, sizeOf, typeInfo, hi, Builtin.lenOf, Builtin.firstCells, loadCells, loadCellsFrom, storeCells, hc]

theorem grownBy_setRow (w : World) (g : Nat) (cs : Array Value) : w.grownBy (w.setRow g cs) (some g) :=
  ⟨rfl, rfl, rfl, by simp [World.setRow], fun k _ hk => setRow_other w g k cs (fun e => hk (by rw [e]))⟩

theorem op_append_own (hR : Rel w S B β og st a) (hO : Out w0 S0 B w S) {rowsV : List (Nat × Row)} (hsub : ∀ id x, lookup rowsV id = some x → lookup st.rows id = some x) (hf : Fresh site st.used) {args : Array Operand} {ts : Array TypeId} {t e : TypeId} {s : Sh} {z : AV} {es es2 : List AV} {id : Nat}
    (ho : o.op = .call { callee := .builtin .append, args := args, argTypes := ts }) (hts : ts.toList = [t, t]) (hx : valsT P st.tm ts.toList args.toList = [.own id, z]) (ht : P.underlying t = some (.slice e)) (hz : elemsOf rowsV z = some (s, es2))
    {csp : Option (List AV)} (hl : lookup rowsV id = some (.arr false s e es csp)) (hse : s = shOf P depth e) (hel : elemOK P e = true) (hroom : roomB (es.length + es2.length) (P.bytesOf e) = true)
    (hy : y { v := .own site, new := some (.arr false s e (es ++ es2) none), del := some id } = some r) (hK : Good w0 S0 B site o st y r K) : o.wp P a w K Q := by
  have hv := valsT_rel hR.tm P ts.toList args.toList
  rw [hx] at hv
  obtain ⟨u, us, he, hu, hs1⟩ := hv.inv
  obtain ⟨u2, us2, rfl, hu2, hn⟩ := hs1.inv
  rw [hn.inv_nil] at he
  have hm := map_eval args _ he
  have htt : ts = #[t, t] := by apply Array.ext'; simpa using hts
  obtain ⟨i, zz, hi, hzz, hiw, hpos, hzs, hby, zc, hza, hhz⟩ := elemOK_spec hel
  obtain ⟨A2, c2, ad, xs2, rfl, hsh2, hA2, hvs2, h12, hcell, hlm⟩ := elems_sound hR hsub hz hu2
  obtain ⟨hb1, hb2⟩ := roomB_spec hroom
  have hlen2 : xs2.length = es2.length * i.size := by rw [hvs2.1, flat_length es2 hsh2, hiw, hse]
  obtain ⟨hp, v, sp, xs, hshS, hcs, hbt, h1, hvs, hor⟩ := hR.row id _ (hsub _ _ hl)
  have hsh : ∀ x ∈ es, hasSh s x = true := fun x hx => hshS x (List.mem_append_left _ hx)
  have hlen : xs.length = (es.length + sp.length) * i.size := by rw [hvs.1, flat_length _ hshS, hiw, hse, List.length_append]
  have hshA : ∀ x ∈ es ++ es2, hasSh s x = true := fun x hx => by
    rcases List.mem_append.1 hx with h | h
    · exact hsh x h
    · exact hsh2 x h
  have hxl : (xs.take (es.length * i.size)).length = es.length * i.size := by rw [List.length_take, hlen, Nat.add_mul]; omega
  have hvsE : VRels w S nob (flat es) (xs.take (es.length * i.size)) := by
    have := hvs.take (es.length * i.size)
    rw [flat_append, List.take_append_of_le_length (by rw [flat_length es hsh, hiw, hse]; exact Nat.le_refl _), List.take_of_length_le (by rw [flat_length es hsh, hiw, hse]; exact Nat.le_refl _)] at this
    exact this
  have h1A : ∀ u ∈ xs.take (es.length * i.size) ++ xs2, u.oneCell' = true := fun x hx => by
    rcases List.mem_append.1 hx with h | h
    · exact h1 x (List.mem_of_mem_take h)
    · exact h12 x h
  have hvsA : VRels w S nob (flat (es ++ es2)) (xs.take (es.length * i.size) ++ xs2) := by rw [flat_append]; exact hvsE.append hvs2
  cases hu with
  | own _ _ v' wd hb' =>
    rw [hbt] at hb'
    simp only [Option.some.injEq, Prod.mk.injEq] at hb'
    obtain ⟨rfl, rfl⟩ := hb'
    have hexec : ∀ (x : Value) (w' : World), (Builtin.append_ #[t, t] o.type #[v, .slice A2 es2.length c2]).run P w = .ok x w' → (execOp a.eval o).run P w = .ok (.value x) w' := fun x w' hrun => by
      simp only [execOp, ho, resolve, invoke, builtin, hm, htt, Sem.run_bind, Sem.run_pure, Result.andThen_ok, hrun]
    rcases hor with ⟨he0, hsp0, hogn, A, rfl⟩ | ⟨g, hog, rfl, hBg, hh, hmx, hi1, _⟩
    · subst he0
      subst hsp0
      rcases es2 with _ | ⟨e0, es2'⟩
      · have hrun : (Builtin.append_ #[t, t] o.type #[.slice A 0 0, .slice A2 0 c2]).run P w = .ok (.slice A 0 0) w := by
          cases A <;> cases A2 <;> simp [Builtin.append_, run_underlying ht, sizeOf, typeInfo, hi, Builtin.lenOf, Builtin.firstCells, loadCells, loadCellsFrom, storeCells]
        refine wp_value (hexec _ _ hrun) (hK _ _ _ hy ⟨S, _, _, hR.moved (id := id) hf o.dst (World.grownBy.refl w _) (fun g hg => by rw [hogn] at hg; cases hg) (x := .slice A 0 0) (wd := s.width) (o' := none) rfl (fun g hg => by cases hg)
          ⟨hp, .slice A 0 0, [], [], by simp, (fun c h => by cases h), upd_same _ _ _, by simp, VRels.nil, .inl ⟨rfl, rfl, rfl, A, rfl⟩⟩ (.own _ site _ _ (upd_same _ _ _)), hO⟩)
      · have hrun := run_append_cap0 (P := P) (w := w) t o.type e i zz ht hi hzz A ad (e0 :: es2').length c2 xs2 hlen2 hcell (by simp) (by simp at hb2 ⊢; omega) (by rw [hby]; simpa using hb1)
        rw [← hA2 (by simp)] at hrun
        have hb := below_drew_alloc w (.cells (xs2.toArray ++ Builtin.zeroCells zz.cells (grownCap w (e0 :: es2').length 0 e - (e0 :: es2').length)) e)
        have hg : w.grownBy _ (og id) := ⟨hb.os, hb.tape, hb.output, hb.size, fun k hk _ => hb.block k hk⟩
        refine wp_value (hexec _ _ hrun) (hK _ _ _ hy ⟨S, _, _, hR.moved (id := id) hf o.dst hg (fun g hg => by rw [hogn] at hg; cases hg) (x := .slice (some ⟨w.heap.size, 0, none⟩) (e0 :: es2').length (grownCap w (e0 :: es2').length 0 e)) (wd := s.width) (o' := some w.heap.size) rfl (fun g hg => by cases hg; simp) ?_ (.own _ site _ _ (upd_same _ _ _)),
          hO.grow hR.Ble hb⟩)
        exact rowrel_new (w := w) hR.Slt hR.Ble hi hzz hzs hpos hiw hza hhz hse hsh2 hvs2 h12 (grownCap_ge _ _ _ _) (grownCap_le_maxLen _ _ _ _ hlm) (w1 := w.drew) rfl (upd_same _ _ _)
    · have hnS : ∀ g', og id = some g' → ¬ S g' := fun g' hg' => by rw [hog] at hg'; cases hg'; exact hi1 rfl
      have hes2n : es2.length = 0 → es2 = [] := List.eq_nil_of_length_eq_zero
      by_cases h0 : es2 = []
      · subst h0
        have hrun := run_append_zero (P := P) (w := w) t o.type e i ht hi g es.length (es.length + sp.length) A2 c2 (by omega)
        refine wp_value (hexec _ _ hrun) (hK _ _ _ hy ⟨S, _, _, hR.moved (id := id) hf o.dst (World.grownBy.refl w _) hnS (x := .slice (some ⟨g, 0, none⟩) es.length (es.length + sp.length)) (wd := s.width) (o' := some g) rfl
          (fun x hx => by cases hx; exact ⟨.inl hog, hR.lt id g hog⟩) ?_ (.own _ site _ _ (upd_same _ _ _)), hO⟩)
        rw [List.append_nil]
        exact ⟨hp, _, sp, xs, hshS, (fun c h => by cases h), upd_same _ _ _, h1, hvs, .inr ⟨g, rfl, rfl, hBg, hh, hmx, hi1, (fun h => by cases h)⟩⟩
      · have hA := hA2 h0
        subst hA
        by_cases hroom2 : es.length + es2.length ≤ es.length + sp.length
        · have hfit : es.length * i.size + xs2.length ≤ xs.toArray.size := by rw [hlen2, List.size_toArray, hlen, ← Nat.add_mul]; exact Nat.mul_le_mul_right _ hroom2
          have hrun := run_append_room (P := P) w t o.type e i ht hi g es.length (es.length + sp.length) xs.toArray hh ad es2.length c2 xs2 hlen2 hcell h12 hroom2 hfit
          have hgr := grownBy_setRow w g (xs.toArray.toList.take (es.length * i.size) ++ xs2 ++ xs.toArray.toList.drop (es.length * i.size + xs2.length)).toArray
          have hw : ∀ b, S b → (w.setRow g (xs.toArray.toList.take (es.length * i.size) ++ xs2 ++ xs.toArray.toList.drop (es.length * i.size + xs2.length)).toArray).heap[b]? = w.heap[b]? := fun b hs => hgr.block b (hR.Slt b hs) (fun e => by cases e; exact hi1 rfl hs)
          refine wp_value (hexec _ _ hrun) (hK _ _ _ hy ⟨S, _, _, hR.moved (id := id) hf o.dst (by rw [hog]; exact hgr) hnS (x := .slice (some ⟨g, 0, none⟩) (es.length + es2.length) (es.length + sp.length)) (wd := s.width) (o' := some g) rfl
            (fun x hx => by cases hx; exact ⟨.inl hog, by simpa [World.setRow] using hR.lt id g hog⟩) ?_ (.own _ site _ _ (upd_same _ _ _)), hO.grownBy hR.Ble hgr (fun k hk => by cases hk; exact hBg)⟩)
          have hsp2 : ∀ x ∈ (es ++ es2) ++ sp.drop es2.length, hasSh s x = true := fun x hx => by
            rcases List.mem_append.1 hx with h | h
            · exact hshA x h
            · exact hshS x (List.mem_append_right _ (List.mem_of_mem_drop h))
          have hdrop : flat (sp.drop es2.length) = (flat (es ++ sp)).drop (es.length * i.size + xs2.length) := by
            have hle : (flat es).length ≤ es.length * i.size + xs2.length := by rw [flat_length es hsh, hiw, hse]; omega
            rw [flat_drop sp _ (fun x hx => hshS x (List.mem_append_right _ hx)), flat_append, List.drop_append, List.drop_of_length_le hle, List.nil_append]
            congr 1
            rw [flat_length es hsh, hlen2, hiw, hse]
            omega
          refine ⟨hp, _, sp.drop es2.length, _, hsp2, (fun c h => by cases h), upd_same _ _ _, ?_, ?_, .inr ⟨g, rfl, ?_, hBg, setRow_heap w g xs.toArray _ e _ hh, ?_, hi1, (fun h => by cases h)⟩⟩
          · intro u hu
            simp only [List.mem_append] at hu
            rcases hu with (hu | hu) | hu
            · exact h1 u (by simpa using List.mem_of_mem_take hu)
            · exact h12 u hu
            · exact h1 u (by simpa using List.mem_of_mem_drop hu)
          · refine VRels.mono (w := w) (S := S) (β := nob) ?_ (fun _ h => h) hw (fun _ _ h => h)
            rw [flat_append, hdrop]
            exact hvsA.append (hvs.drop _)
          · simp only [List.length_append, List.length_drop]; congr 1; omega
          · simp only [List.length_append, List.length_drop]; omega
        · have holds : ∀ (j : Nat) (u : Value), (xs.take (es.length * i.size))[j]? = some u → w.cell? ((⟨g, 0, none⟩ : Addr).add j) = some u := by
            intro j u hu
            rw [add_lit, row_cell hh]
            rw [List.getElem?_take] at hu
            split at hu
            · simpa using hu
            · cases hu
          have hmx' : es.length + es2.length ≤ maxLen := by simp only [maxLen]; omega
          have hrun := run_append_grow (P := P) w t o.type e i zz ht hi hzz ⟨g, 0, none⟩ es.length (es.length + sp.length) _ hxl holds ad es2.length c2 xs2 hlen2 hcell (by omega) (by omega) (growslice_fits (by omega) (by rw [hby]; exact hb1))
          rw [show (xs.take (es.length * i.size)).toArray ++ xs2.toArray = (xs.take (es.length * i.size) ++ xs2).toArray by simp] at hrun
          have hb := below_drew_alloc w (.cells ((xs.take (es.length * i.size) ++ xs2).toArray ++ Builtin.zeroCells zz.cells (grownCap w (es.length + es2.length) (es.length + sp.length) e - (es.length + es2.length))) e)
          have hg : w.grownBy _ (og id) := ⟨hb.os, hb.tape, hb.output, hb.size, fun k hk _ => hb.block k hk⟩
          refine wp_value (hexec _ _ hrun) (hK _ _ _ hy ⟨S, _, _, hR.moved (id := id) hf o.dst hg hnS (x := .slice (some ⟨w.heap.size, 0, none⟩) (es.length + es2.length) (grownCap w (es.length + es2.length) (es.length + sp.length) e)) (wd := s.width) (o' := some w.heap.size) rfl (fun g hg => by cases hg; simp) ?_ (.own _ site _ _ (upd_same _ _ _)),
            hO.grow hR.Ble hb⟩)
          rw [← List.length_append]
          exact rowrel_new (w := w) hR.Slt hR.Ble hi hzz hzs hpos hiw hza hhz hse hshA hvsA h1A (grownCap_ge _ _ _ _) (grownCap_le_maxLen _ _ _ _ (by rw [List.length_append]; exact hmx')) (w1 := w.drew) rfl (upd_same _ _ _)

/-! ### Stores -/
theorem Rel.congr (h : Rel w S B β og st a) {rows' : List (Nat × Row)} (he : ∀ i, lookup rows' i = lookup st.rows i) : Rel w S B β og ⟨st.tm, rows', st.used⟩ a :=
  ⟨h.tm, h.df, fun id r hr => h.row id r ((he id).symm.trans hr), h.inj, h.lt, h.used, h.one, h.Slt, h.Ble, h.pid⟩

/-- A row is written: its block alone has changed. -/
theorem Rel.modify (h : Rel w S B β og st a) {id : Nat} {w' : World} {r1 : Row} (hg : w.grownBy w' (og id)) (hsz : w'.heap.size = w.heap.size) (hnS : ∀ g, og id = some g → ¬ S g) (hrow : RowRel w' S B β id (og id) r1) :
    Rel w' S B β og ⟨st.tm, setRow st.rows id r1, st.used⟩ a := by
  have hw : ∀ b, S b → w'.heap[b]? = w.heap[b]? := fun b hs => hg.block b (h.Slt b hs) (fun e => hnS b e.symm hs)
  refine ⟨h.tm.mono (fun _ h => h) hw (fun _ _ h => h), h.df, fun i y hy => ?_, h.inj, fun i g hgi => by rw [hsz]; exact h.lt i g hgi, h.used, h.one, fun b hs => by rw [hsz]; exact h.Slt b hs, fun b hs => by rw [hsz]; exact h.Ble b hs, h.pid⟩
  rw [lookup_setRow] at hy
  by_cases e : i = id
  · subst e
    simp only [if_pos] at hy
    cases hy
    exact hrow
  · rw [if_neg e] at hy
    exact (h.row i y hy).keep (fun _ _ h => h) (fun _ h => h) (fun _ _ h => h) hw (fun g hgi => hg.block g (h.lt i g hgi) (fun e2 => e (h.inj i id g hgi e2.symm)))

theorem VRels.splice {cs ds : List AV} {vs us : List Value} (h : VRels w S β cs vs) (h' : VRels w S β ds us) (off : Nat) : VRels w S β (splice cs off ds) (vs.take off ++ us ++ vs.drop (off + us.length)) := by
  unfold Go.Ev.splice
  rw [h'.1]
  exact ((h.take off).append h').append (h.drop _)

theorem op_store_ptr (hR : Rel w S B β og st a) (hO : Out w0 S0 B w S) {t : TypeId} {x z : Operand} {id off : Nat} {cs : List AV} (ho : o.op = .store t x z) (hlaid : (valT P st.tm t z).laidB = true) (hn : (valT P st.tm t z).cells.length = P.cellsOf t) (hn0 : P.cellsOf t ≠ 0)
    (hx : val st.tm x = .ptr id off) (hl : lookup st.rows id = some (.box false cs)) (hle : off + (valT P st.tm t z).cells.length ≤ cs.length)
    (hy : y { v := .undef, mod := some (id, .box false (splice cs off (valT P st.tm t z).cells)) } = some r) (hK : Good w0 S0 B site o st y r K) : o.wp P a w K Q := by
  obtain ⟨us, huc, hus, hu1⟩ := (valT_rel hR.tm P t z).laid hlaid hR.one
  have hp := val_rel hR.tm x
  rw [hx] at hp
  obtain ⟨g, vs, tt, hog, hbt, hh, h1, hvs, him, _, hBg⟩ := hR.row id _ hl
  obtain ⟨i, hi, hisz⟩ := cellsOf_info hn0
  generalize he : a.eval x = u at hp
  cases hp with
  | ptr _ _ _ g' wd hb' =>
    rw [hbt] at hb'
    simp at hb'
    obtain ⟨rfl, _⟩ := hb'
    have hul : us.length = P.cellsOf t := by rw [hus.1]; exact hn
    have hst := run_storeCells_at P g off tt us 0 vs.toArray w hh (by simp; rw [hvs.1, hus.1]; exact hle) hu1
    simp only [Nat.add_zero] at hst
    have hnS : ∀ g', og id = some g' → ¬ S g' := fun g' hg' => by rw [hog] at hg'; cases hg'; exact him rfl
    have hgr := grownBy_setRow w g (vs.take off ++ us ++ vs.drop (off + us.length)).toArray
    have hw : ∀ b, S b → (w.setRow g (vs.take off ++ us ++ vs.drop (off + us.length)).toArray).heap[b]? = w.heap[b]? := fun b hs => hgr.block b (hR.Slt b hs) (fun e => by cases e; exact him rfl hs)
    have hrow : RowRel (w.setRow g (vs.take off ++ us ++ vs.drop (off + us.length)).toArray) S B β id (og id) (.box false (splice cs off (valT P st.tm t z).cells)) := by
      refine ⟨g, _, tt, hog, hbt, setRow_heap w g _ _ tt _ hh, ?_, (hvs.splice hus off).mono (fun _ h => h) hw (fun _ _ h => h), fun _ => him rfl, (fun h => by cases h), hBg⟩
      intro u hu
      simp only [List.mem_append] at hu
      rcases hu with (hu | hu) | hu
      · exact h1 u (List.mem_of_mem_take hu)
      · exact hu1 u hu
      · exact h1 u (List.mem_of_mem_drop hu)
    refine wp_skip' (w' := w.setRow g (vs.take off ++ us ++ vs.drop (off + us.length)).toArray) ?_ (hK _ _ _ hy ⟨S, β, og, (hR.modify (id := id) (by rw [hog]; exact hgr) (by simp [World.setRow]) hnS hrow).put o.dst (.undef _), hO.grownBy hR.Ble hgr (fun k hk => by cases hk; exact hBg)⟩)
    have hsz : (a.eval z).cells.size = i.size := by rw [huc, hisz, ← hul]; simp
    simp only [execOp, ho, he, Instr.storeAt, Instr.sureAddr, pure_bind, storeVar, sizeOf, typeInfo, Sem.run_bind, run_program, Result.andThen_ok, hi, Sem.run_pure, hsz]
    simp [huc, hst]

end ops
end Go.Ev
