/-
  Elements that are cleared; room that is appended.
-/
import Derived.Test.YtpgaobdgohlegaaEvMA
import Derived.IntWalk
import Derived.Laws.MakeOwn
namespace Go.Ev
open Go.RowKit

section ops
variable {ρ : Type} {P : Program} {w0 w : World} {S0 S : Nat → Prop} {B : Ctx} {β : Bet} {og : Nat → Option Nat} {st : St} {a : Act} {o : Oper} {site : Nat} {y : Eff → Option ρ} {r : ρ}
  {K : Act → World → Prop} {Q : Exit → Act → World → Prop}

theorem op_clear (hR : Rel w S B β og st a) (hO : Out w0 S0 B w S) {rowsV : List (Nat × Row)} (hsub : ∀ id x, lookup rowsV id = some x → lookup st.rows id = some x) {args : Array Operand} {ts : Array TypeId} {t e e' : TypeId} {id lo len : Nat} {s : Sh} {es : List AV} {csp : Option (List AV)}
    (ho : o.op = .call { callee := .builtin .clear, args := args, argTypes := ts }) (hts : ts.toList = [t]) (hx : valsT P st.tm ts.toList args.toList = [.sub id lo len]) (ht : P.underlying t = some (.slice e)) (hl : lookup rowsV id = some (.arr false s e' es csp)) (hse : s = shOf P depth e) (hel : elemOK P e = true) (hle : lo + len ≤ es.length)
    (hy : y { v := .undef, mod := some (id, .arr false s e' (es.take lo ++ (List.replicate len (zeroE P e) ++ es.drop (lo + len))) csp) } = some r) (hK : Good w0 S0 B site o st y r K) : o.wp P a w K Q := by
  have hv := valsT_rel hR.tm P ts.toList args.toList
  rw [hx] at hv
  obtain ⟨u, us, he, hu, hn⟩ := hv.inv
  rw [hn.inv_nil] at he
  have hm := map_eval args _ he
  have htt : ts = #[t] := by apply Array.ext'; simpa using hts
  obtain ⟨i, zz, hi, hzz, hiw, hpos, hzs, hby, zc, hza, hhz⟩ := elemOK_spec hel
  have hrow := hR.row id _ (hsub _ _ hl)
  obtain ⟨A, c, hbt, hc, _, hA⟩ := arr_val hrow
  have hu' := sub_val hbt hu
  have hexec : ∀ (x : Value) (w' : World), (Builtin.clear_ #[t] o.type #[u]).run P w = .ok x w' → (execOp a.eval o).run P w = .ok (.value x) w' := fun x w' hrun => by
    simp only [execOp, ho, resolve, invoke, builtin, hm, htt, Sem.run_bind, Sem.run_pure, Result.andThen_ok, hrun]
  by_cases h0 : len = 0
  · subst h0
    simp only [List.replicate_zero] at hy
    rw [take_drop_all] at hy
    have hrun : (Builtin.clear_ #[t] o.type #[u]).run P w = .ok undef w := by
      rw [hu']
      generalize (if c = lo then A else A.map (·.add (lo * s.width))) = A'
      cases A' <;> simp [Builtin.clear_, run_underlying ht] <;> rfl
    have hM := hR.modify (id := id) (w' := w) (World.grownBy.refl w _) rfl (fun g hg => by
      obtain ⟨_, _, _, _, _, _, _, _, _, hor⟩ := hrow
      rcases hor with ⟨_, _, hogn, _⟩ | ⟨g', hog, _, _, _, _, him, _⟩
      · rw [hogn] at hg; cases hg
      · rw [hog] at hg; cases hg; exact him rfl) hrow
    exact wp_value (hexec _ _ hrun) (hK _ _ _ hy ⟨S, β, og, hM.put o.dst (.undef _), hO⟩)
  · obtain ⟨z1, z2, z3⟩ := zeros_rel hi hzz hzs hpos hza hhz w S nob len
    rw [← hse] at z1
    have hne : List.replicate len (zeroE P e) ≠ [] := by
      intro h
      have := congrArg List.length h
      simp at this
      exact h0 this
    obtain ⟨g, xs, c', hog, hSg, hBg, hbt', hc', hh, hfit, hul, hrow'⟩ := row_splice hR.Slt hrow (lo := lo) (ds := List.replicate len (zeroE P e)) (fun x hx => by rw [(List.mem_replicate.1 hx).2]; exact z1) z2 z3 (by simpa using hle) hne
    rw [hbt] at hbt'
    simp only [Option.some.injEq, Prod.mk.injEq, Value.slice.injEq, and_true, true_and] at hbt'
    obtain ⟨rfl, rfl⟩ := hbt'
    rw [List.length_replicate] at hrow'
    have hgr := grownBy_setRow w g (xs.take (lo * s.width) ++ (Builtin.zeroCells zz.cells len).toList ++ xs.drop (lo * s.width + (Builtin.zeroCells zz.cells len).toList.length)).toArray
    have hM := hR.modify (id := id) (by rw [hog]; exact hgr) (by simp [World.setRow]) (fun g' hg' => by rw [hog] at hg'; cases hg'; exact hSg) hrow'
    have hst := run_storeCells_at P g (lo * s.width) e' (Builtin.zeroCells zz.cells len).toList 0 xs.toArray w hh (by simp only [List.size_toArray, Nat.add_zero]; exact hfit) z3
    simp only [Nat.add_zero] at hst
    have hrun : (Builtin.clear_ #[t] o.type #[u]).run P w = .ok undef (w.setRow g (xs.take (lo * s.width) ++ (Builtin.zeroCells zz.cells len).toList ++ xs.drop (lo * s.width + (Builtin.zeroCells zz.cells len).toList.length)).toArray) := by
      rw [hu', if_neg (by omega)]
      simp only [Option.map_some, add_lit', Nat.zero_add]
      obtain ⟨len, rfl⟩ := Nat.exists_eq_succ_of_ne_zero h0
      simp only [Builtin.clear_, List.getElem?_toArray, List.getElem?_cons_zero, Sem.run_bind, run_underlying ht, Result.andThen_ok, zeroValue, typeInfo, run_program, hi, hzz, Sem.run_pure, hst]
      rfl
    exact wp_value (hexec _ _ hrun) (hK _ _ _ hy ⟨S, β, og, hM.put o.dst (.undef _), hO.grownBy hR.Ble hgr (fun k hk => by cases hk; exact hBg)⟩)

theorem wrap_nat (n : Nat) (h : n ≤ 4611686018427387904) : IntKind.i64.wrap (n : Int) = n := IntWalk.i64_in _ (by omega)
/-- Room for n elements is appended, in a new array. -/
theorem run_append_zeros (t u ty e : TypeId) (i : TypeInfo) (z : Value) (ht : P.underlying t = some (.slice e)) {k k' : IntKind} (hut : P.underlying u = some (.int k')) (hi : P.info? e = some i) (hz : i.zero = some z) (hpos : 0 < i.size)
    (A : Option Addr) (sLen sCap n : Nat) (olds : List Value) (hlo : olds.length = sLen * i.size) (holds : ∀ b, A = some b → ∀ j v, olds[j]? = some v → w.cell? (b.add j) = some v) (hA : A = none → sLen = 0)
    (hg : sCap < sLen + n) (hn : 0 < n) (h63 : sLen + n ≤ 4611686018427387904) (hb : n * i.bytes ≤ 281474976710656) (hfit : Builtin.nextslicecap (sLen + n) sCap * i.bytes ≤ 281474976710656) :
    (Builtin.append_ #[t, u] ty #[.slice A sLen sCap, .int k (n : Int)]).run P w =
      .ok (.slice (some ⟨w.heap.size, 0, none⟩) (sLen + n) (grownCap w (sLen + n) sCap e))
        (w.drew.alloc (.cells ((olds ++ (Builtin.zeroCells z.cells n).toList).toArray ++ Builtin.zeroCells z.cells (grownCap w (sLen + n) sCap e - (sLen + n))) e)) := by
  have hng : ¬ (sLen + n ≤ sCap) := by omega
  have h63' : ¬ (9223372036854775807 < ((sLen : Int) + (n : Int))) := by omega
  have h48' : ¬ (281474976710656 < Builtin.nextslicecap (sLen + n) sCap * i.bytes) := by omega
  have hwr : IntKind.i64.wrap (n : Int) = n := wrap_nat n (by omega)
  have hnn : ¬ ((n : Int) < 0) := by omega
  have hbb : ¬ ((281474976710656 : Int) < (n : Int) * (i.bytes : Int)) := by
    have := Int.ofNat_le.2 hb
    rw [Int.natCast_mul] at this
    exact Int.not_lt.2 this
  have hn0 : ¬ (n * i.size = 0) := by
    intro h
    rcases Nat.mul_eq_zero.1 h with h | h <;> omega
  have hfo : (Builtin.firstCells i.size sLen (.slice A sLen sCap)).run P w.drew = .ok olds.toArray w.drew := by
    cases A with
    | none =>
      have h0 := hA rfl
      subst h0
      have : olds = [] := List.eq_nil_of_length_eq_zero (by simpa using hlo)
      subst this
      simp [Builtin.firstCells]
    | some b => exact run_firstCells_some (P := P) w.drew i.size sLen b sLen sCap olds hlo (by simpa using holds b rfl)
  simp [Builtin.append_, run_underlying ht, run_underlying hut, sizeOf, typeInfo, zeroValue, hi, hz, asInt, asIntOf, hwr, hnn, hbb, hn0, hng, h63', h48', Question.forced, hfo, newRow, grownCap]
  congr 2
  apply Array.ext'
  simp [List.append_assoc]

theorem op_append_zeros (hR : Rel w S B β og st a) (hO : Out w0 S0 B w S) {rowsV : List (Nat × Row)} (hsub : ∀ id x, lookup rowsV id = some x → lookup st.rows id = some x) (hf : Fresh site st.used) {args : Array Operand} {ts : Array TypeId} {t t' e e' : TypeId} {id i : Nat} {im : Bool} {k k' : IntKind} {n : Int} {s : Sh} {es sp : List AV}
    (ho : o.op = .call { callee := .builtin .append, args := args, argTypes := ts }) (hts : ts.toList = [t, t']) (hx : valsT P st.tm ts.toList args.toList = [.sub id 0 i, .int k n]) (ht : P.underlying t = some (.slice e)) (ht' : P.underlying t' = some (.int k')) (hl : lookup rowsV id = some (.arr im s e' es (some sp))) (hse : s = shOf P depth e) (hel : elemOK P e = true) (hie : i ≤ es.length) (hn : 0 ≤ n)
    (hgt : es.length + sp.length < i + n.toNat) (hroom : roomB (i + n.toNat) (P.bytesOf e) = true)
    (hy : y { v := .own site, new := some (.arr false s e (es.take i ++ List.replicate n.toNat (zeroE P e)) none) } = some r) (hK : Good w0 S0 B site o st y r K) : o.wp P a w K Q := by
  have hv := valsT_rel hR.tm P ts.toList args.toList
  rw [hx] at hv
  obtain ⟨u, us, he, hu, hs1⟩ := hv.inv
  obtain ⟨u2, us2, rfl, hu2, hnl⟩ := hs1.inv
  rw [hnl.inv_nil] at he
  have hm := map_eval args _ he
  have htt : ts = #[t, t'] := by apply Array.ext'; simpa using hts
  obtain ⟨ii, zz, hi, hzz, hiw, hpos, hzs, hby, zc, hza, hhz⟩ := elemOK_spec hel
  obtain ⟨hb1, hb2⟩ := roomB_spec hroom
  have hrow := hR.row id _ (hsub _ _ hl)
  obtain ⟨A, c, hbt, hc, hcl, hA⟩ := arr_val hrow
  have hcc := hcl sp rfl
  have hu' := sub_val hbt hu
  have hu2' := hu2.int_inv
  obtain ⟨hp, v, sp', xs, hshS, hcs, hbt', h1, hvs, hor⟩ := hrow
  have hsp : sp = sp' := hcs sp rfl
  subst hsp
  rw [hbt] at hbt'
  simp only [Option.some.injEq, Prod.mk.injEq, and_true] at hbt'
  subst hbt'
  have hshE : ∀ x ∈ es.take i, hasSh s x = true := fun x hx => hshS x (List.mem_append_left _ (List.mem_of_mem_take hx))
  have hxl : xs.length = (es.length + sp.length) * ii.size := by rw [hvs.1, flat_length _ hshS, List.length_append, hiw, hse]
  have hole : i * ii.size ≤ xs.length := by rw [hxl]; exact Nat.mul_le_mul_right _ (by omega)
  have hol : (xs.take (i * ii.size)).length = i * ii.size := by rw [List.length_take]; omega
  have hvo : VRels w S nob (flat (es.take i)) (xs.take (i * ii.size)) := by
    have := hvs.take (i * ii.size)
    rw [hiw, ← hse, ← flat_take (s := s) _ _ hshS, List.take_append_of_le_length hie] at this
    rw [hiw, ← hse]
    exact this
  obtain ⟨z1, z2, z3⟩ := zeros_rel hi hzz hzs hpos hza hhz w S nob n.toNat
  rw [← hse] at z1
  have hshN : ∀ x ∈ es.take i ++ List.replicate n.toNat (zeroE P e), hasSh s x = true := fun x hx => by
    rcases List.mem_append.1 hx with h | h
    · exact hshE x h
    · rw [(List.mem_replicate.1 h).2]; exact z1
  have hvN : VRels w S nob (flat (es.take i ++ List.replicate n.toNat (zeroE P e))) (xs.take (i * ii.size) ++ (Builtin.zeroCells zz.cells n.toNat).toList) := by rw [flat_append]; exact hvo.append z2
  have h1N : ∀ u ∈ xs.take (i * ii.size) ++ (Builtin.zeroCells zz.cells n.toNat).toList, u.oneCell' = true := fun x hx => by
    rcases List.mem_append.1 hx with h | h
    · exact h1 x (List.mem_of_mem_take h)
    · exact z3 x h
  have hlN : (es.take i ++ List.replicate n.toNat (zeroE P e)).length = i + n.toNat := by simp; omega
  have hA' : ∃ A', u = .slice A' i c ∧ (∀ b, A' = some b → ∀ (j : Nat) (v : Value), (xs.take (i * ii.size))[j]? = some v → w.cell? (b.add j) = some v) ∧ (A' = none → i = 0) := by
    rcases Nat.eq_zero_or_pos c with h0 | h0
    · refine ⟨A, ?_, fun b _ j v hj => ?_, fun _ => by omega⟩
      · rw [hu', if_pos h0]; rfl
      · have hi0 : i = 0 := by omega
        subst hi0
        simp at hj
    · obtain ⟨g, rfl, hog⟩ := hA h0
      refine ⟨some ⟨g, 0, none⟩, ?_, fun b hb j v hj => ?_, fun h => by cases h⟩
      · rw [hu', if_neg (by omega)]
        simp [Addr.add]
      · cases hb
        rcases hor with ⟨rfl, rfl, _⟩ | ⟨g', hog', hvv, _, hh, _⟩
        · simp at hcc; omega
        · rw [hog] at hog'
          cases hog'
          rw [add_lit, row_cell hh]
          rw [List.getElem?_take] at hj
          split at hj
          · simpa using hj
          · cases hj
  obtain ⟨A', hue, hold, hnone⟩ := hA'
  have hnn : ((n.toNat : Nat) : Int) = n := by omega
  have hrun := run_append_zeros (P := P) (w := w) t t' o.type e ii zz ht (k := k) ht' hi hzz hpos A' i c n.toNat _ hol hold hnone (by omega) (by omega) (by omega)
    (by rw [hby]; exact Nat.le_trans (Nat.mul_le_mul_right _ (by omega)) (Nat.le_trans hb1 (by decide))) (growslice_fits (by omega) (by rw [hby]; exact hb1))
  rw [hnn] at hrun
  have hexec : ∀ (x : Value) (w' : World), (Builtin.append_ #[t, t'] o.type #[.slice A' i c, .int k n]).run P w = .ok x w' → (execOp a.eval o).run P w = .ok (.value x) w' := fun x w' hrun => by
    simp only [execOp, ho, resolve, invoke, builtin, hm, htt, hue, hu2', Sem.run_bind, Sem.run_pure, Result.andThen_ok, hrun]
  have hb := below_drew_alloc w (.cells ((xs.take (i * ii.size) ++ (Builtin.zeroCells zz.cells n.toNat).toList).toArray ++ Builtin.zeroCells zz.cells (grownCap w (i + n.toNat) c e - (i + n.toNat))) e)
  have hN := hR.new site hf o.dst hb (S' := S) (fun _ h => h) (fun _ _ h => h) (fun b hs => Nat.lt_of_lt_of_le (hR.Slt b hs) hb.size) (x := .slice (some ⟨w.heap.size, 0, none⟩) (i + n.toNat) (grownCap w (i + n.toNat) c e)) (wd := s.width) (o := some w.heap.size) rfl (fun g hg => by cases hg; simp)
    (r := .arr false s e (es.take i ++ List.replicate n.toNat (zeroE P e)) none) (v := .own site) (u := .slice (some ⟨w.heap.size, 0, none⟩) (i + n.toNat) (grownCap w (i + n.toNat) c e)) ?_ (.own _ site _ _ (upd_same _ _ _))
  · exact wp_value (hexec _ _ hrun) (hK _ _ _ hy ⟨S, _, _, hN, hO.grow hR.Ble hb⟩)
  · rw [← hlN]
    exact rowrel_new (w := w) hR.Slt hR.Ble hi hzz hzs hpos hiw hza hhz hse hshN hvN h1N (grownCap_ge _ _ _ _) (grownCap_le_maxLen _ _ _ _ (by rw [hlN]; simp only [maxLen]; omega)) (w1 := w.drew) rfl (upd_same _ _ _)

/-- A new slice of zeros. -/
theorem op_makeSlice (hR : Rel w S B β og st a) (hO : Out w0 S0 B w S) (hf : Fresh site st.used) {t e : TypeId} {l c : Operand} {k k' : IntKind} {n : Int} (ho : o.op = .makeSlice t l c) (ht : P.underlying t = some (.slice e)) (hl : val st.tm l = .int k n) (hc : val st.tm c = .int k' n) (hel : elemOK P e = true) (hn : 0 ≤ n) (hroom : roomB n.toNat (P.bytesOf e) = true)
    (hy : y { v := .own site, new := some (.arr false (shOf P depth e) e (List.replicate n.toNat (zeroE P e)) none) } = some r) (hK : Good w0 S0 B site o st y r K) : o.wp P a w K Q := by
  have hlv := val_rel hR.tm l
  rw [hl] at hlv
  have hcv := val_rel hR.tm c
  rw [hc] at hcv
  have hle := hlv.int_inv
  have hce := hcv.int_inv
  obtain ⟨ii, zz, hi, hzz, hiw, hpos, hzs, hby, zc, hza, hhz⟩ := elemOK_spec hel
  obtain ⟨hb1, hb2⟩ := roomB_spec hroom
  obtain ⟨z1, z2, z3⟩ := zeros_rel hi hzz hzs hpos hza hhz w S nob n.toNat
  have hbb : (ii.bytes : Int) * n ≤ 281474976710656 := by
    have h1 : n.toNat * ii.bytes ≤ 140737488355328 := by rw [hby]; exact hb1
    have h2 : ((n.toNat * ii.bytes : Nat) : Int) ≤ 140737488355328 := by omega
    rw [Int.natCast_mul, Int.toNat_of_nonneg hn, Int.mul_comm] at h2
    omega
  have hmc : Go.madeCells zz.cells (n.toNat * ii.size) = Builtin.zeroCells zz.cells n.toNat := by
    unfold Go.madeCells Builtin.zeroCells
    rw [hzs]
  have hrun := run_make (P := P) w t e ii zz ht hi hzz k k' n n hn (Int.le_refl _) hbb (by omega)
  rw [hmc] at hrun
  have hexec : ∀ (x : Value) (w' : World), (Instr.makeSlice t (.int k n) (.int k' n)).run P w = .ok x w' → (execOp a.eval o).run P w = .ok (.value x) w' := fun x w' hrun => by
    simp only [execOp, ho, hle, hce, Sem.run_bind, Sem.run_pure, Result.andThen_ok, hrun]
  have hx : Builtin.zeroCells zz.cells n.toNat = (Builtin.zeroCells zz.cells n.toNat).toList.toArray ++ Builtin.zeroCells zz.cells (n.toNat - (List.replicate n.toNat (zeroE P e)).length) := by
    rw [List.length_replicate, Nat.sub_self]
    apply Array.ext'
    simp [Builtin.zeroCells]
  have hb := below_alloc w (.cells (Builtin.zeroCells zz.cells n.toNat) e)
  have hN := hR.new site hf o.dst hb (S' := S) (fun _ h => h) (fun _ _ h => h) (fun b hs => Nat.lt_of_lt_of_le (hR.Slt b hs) hb.size) (x := .slice (some ⟨w.heap.size, 0, none⟩) n.toNat n.toNat) (wd := (shOf P depth e).width) (o := some w.heap.size) rfl (fun g hg => by cases hg; simp)
    (r := .arr false (shOf P depth e) e (List.replicate n.toNat (zeroE P e)) none) (v := .own site) (u := .slice (some ⟨w.heap.size, 0, none⟩) n.toNat n.toNat) ?_ (.own _ site _ _ (upd_same _ _ _))
  · exact wp_value (hexec _ _ hrun) (hK _ _ _ hy ⟨S, _, _, hN, hO.grow hR.Ble hb⟩)
  · have := rowrel_new (w := w) (β' := upd β site (some (.slice (some ⟨w.heap.size, 0, none⟩) n.toNat n.toNat, (shOf P depth e).width))) (id := site) hR.Slt hR.Ble hi hzz hzs hpos hiw hza hhz rfl (es := List.replicate n.toNat (zeroE P e)) (fun x hx => by rw [(List.mem_replicate.1 hx).2]; exact z1) z2 z3 (cap := n.toNat) (by simp) (by simp only [maxLen]; omega) (w1 := w) rfl (by rw [List.length_replicate]; exact upd_same _ _ _)
    rw [← hx] at this
    exact this

end ops
end Go.Ev
