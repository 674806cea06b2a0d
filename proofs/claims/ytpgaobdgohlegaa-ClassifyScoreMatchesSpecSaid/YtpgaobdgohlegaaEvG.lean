/-
  The operations, second part: arithmetic, comparisons, strings, slices, literals.
-/
import Derived.Test.YtpgaobdgohlegaaEvF
import Derived.Laws.Cover3
namespace Go.Ev
open Go.RowKit

section ops
variable {ρ : Type} {P : Program} {w0 w : World} {S0 S : Nat → Prop} {B : Ctx} {β : Bet} {og : Nat → Option Nat} {st : St} {a : Act} {o : Oper} {site : Nat} {y : Eff → Option ρ} {r : ρ}
  {K : Act → World → Prop} {Q : Exit → Act → World → Prop}

theorem bif_some {b : Bool} {x : Option ρ} (h : (bif b then x else none) = some r) : b = true ∧ x = some r := by cases b <;> simp_all
theorem bif_some' {b : Bool} {x : Option ρ} (h : (bif b then none else x) = some r) : b = false ∧ x = some r := by cases b <;> simp_all

theorem toList_mk (l : List UInt8) : (ByteArray.mk l.toArray).toList = l := by rw [ByteArray.toList_eq]

theorem eqA_sound : ∀ (fs : List Field) (n : Nat) (cs ds : List AV) (xs ys : Array Value) (b : Bool), eqA P fs n cs ds = some b →
    (∀ (j : Nat) (c : AV), cs[j]? = some c → ∃ u, xs[n + j]? = some u ∧ VRel w S β c u) → (∀ (j : Nat) (c : AV), ds[j]? = some c → ∃ u, ys[n + j]? = some u ∧ VRel w S β c u) → ∀ d : Nat,
    (Op.eqFields (d + 1) xs ys fs).run P w = .ok b w
  | [], n, [], [], xs, ys, b, h, _, _, d => by simp [eqA] at h; simp [Op.eqFields, ← h]
  | [], n, _ :: _, _, xs, ys, b, h, _, _, d => by simp [eqA] at h
  | [], n, [], _ :: _, xs, ys, b, h, _, _, d => by simp [eqA] at h
  | f :: fs, n, [], _, xs, ys, b, h, _, _, d => by simp [eqA] at h
  | f :: fs, n, c :: cs, [], xs, ys, b, h, _, _, d => by simp [eqA] at h
  | f :: fs, n, c :: cs, e :: ds, xs, ys, b, h, hx, hy, d => by
    obtain ⟨u, hu, hcu⟩ := hx 0 c rfl
    obtain ⟨u', hu', heu⟩ := hy 0 e rfl
    rw [Nat.add_zero] at hu hu'
    have ih := fun b' hb' => eqA_sound fs (n + 1) cs ds xs ys b' hb' (fun j c hc => by have := hx (j + 1) c (by simpa using hc); rwa [show n + (j + 1) = n + 1 + j from by omega] at this)
      (fun j c hc => by have := hy (j + 1) c (by simpa using hc); rwa [show n + (j + 1) = n + 1 + j from by omega] at this) d
    simp only [eqA] at h
    split at h
    · rename_i hno
      simp only [Bool.and_eq_true, bne_iff_ne, ne_eq, beq_iff_eq] at hno
      obtain ⟨hn, hof⟩ := hno
      have key : ∀ (dd : TypeDesc), P.underlying f.type = some dd → isAggT P f.type = false → ∀ b1 : Bool, (Op.equalIn (d + 1) f.type u u').run P w = .ok b1 w → ∀ b2, eqA P fs (n + 1) cs ds = some b2 → b = (b1 && b2) →
          (Op.eqFields (d + 1) xs ys (f :: fs)).run P w = .ok b w := by
        intro dd hdd hag b1 h1 b2 h2 hb
        have hpart : ∀ (zs : Array Value) (z : Value), zs[n]? = some z → (part f.type zs f.offset).run P w = .ok z w := fun zs z hz => by
          simp [part, run_isAgg hdd, hag, hof, hz]
        simp only [Op.eqFields, ne_eq, hn, not_false_eq_true, if_true, Sem.run_bind, hpart xs u hu, hpart ys u' hu', Result.andThen_ok, h1]
        cases b1 with
        | false => simp [hb]
        | true => simp [ih b2 h2, hb]
      split at h
      · rename_i k0 k m k' m' hdd
        split at h
        · rename_i hk
          subst hk
          split at h
          · rename_i b2 h2
            cases h
            rw [hcu.int_inv, heu.int_inv] at *
            exact key _ hdd (by simp [isAggT, hdd]) (m == m') (run_equalIn_int w d f.type k k0 m m' hdd) b2 h2 rfl
          · cases h
        · cases h
      · rename_i m m' hdd
        split at h
        · rename_i b2 h2
          cases h
          rw [hcu.bool_inv, heu.bool_inv] at *
          exact key _ hdd (by simp [isAggT, hdd]) (m == m') (run_equalIn_bool' w d f.type m m' hdd) b2 h2 rfl
        · cases h
      · rename_i m m' hdd
        split at h
        · rename_i b2 h2
          cases h
          rw [hcu.str_inv, heu.str_inv] at *
          have := run_equalIn_string (P := P) w d f.type ⟨m.toArray⟩ ⟨m'.toArray⟩ hdd
          rw [toList_mk, toList_mk] at this
          exact key _ hdd (by simp [isAggT, hdd]) (m == m') this b2 h2 rfl
        · cases h
      · cases h
    · cases h

theorem VRel.agg_inv {cs : List AV} {v : Value} (h : VRel w S β (.agg cs) v) : ∃ vs : List Value, v = .agg vs.toArray ∧ VRels w S β cs vs ∧ ∀ u ∈ vs, u.oneCell' = true := by
  cases h with
  | agg _ _ vs hl h1 hh => exact ⟨vs, rfl, ⟨hl, hh⟩, h1⟩

theorem bin_sound {op : BinOp} {t : TypeId} {x z : AV} {z' : AV → Option ρ} (h : evBin P op t x z z' = some r) {ox oz : Operand} {u u' : Value} (hx : VRel w S β x u) (hz : VRel w S β z u') :
    ∃ v uu, z' v = some r ∧ VRel w S β v uu ∧ (do eqGuard op t ox oz u u'; binOp op t u u').run P w = .ok uu w := by
  unfold evBin at h
  split at h
  · rename_i k m k' m'
    rw [hx.int_inv, hz.int_inv]
    split at h
    · rename_i hop
      unfold binShift at h
      obtain ⟨hb, h⟩ := bif_some' h
      have hb' : ¬ m' < 0 := by simpa using hb
      exact ⟨_, _, h, .int _ _ _, by simp [go_sem, Op.shift, hb']⟩
    · unfold binShift at h
      obtain ⟨hb, h⟩ := bif_some' h
      have hb' : ¬ m' < 0 := by simpa using hb
      exact ⟨_, _, h, .int _ _ _, by simp [go_sem, Op.shift, hb']⟩
    · split at h
      · rename_i hk
        subst hk
        unfold binInt at h
        split at h
        · exact ⟨_, _, h, .int _ _ _, by simp [go_sem, Op.intArith]⟩
        · exact ⟨_, _, h, .int _ _ _, by simp [go_sem, Op.intArith]⟩
        · exact ⟨_, _, h, .int _ _ _, by simp [go_sem, Op.intArith]⟩
        · obtain ⟨hb, h⟩ := bif_some' h
          have hb' : ¬ m' = 0 := by simpa using hb
          exact ⟨_, _, h, .int _ _ _, by simp [go_sem, Op.intDiv, hb']⟩
        · obtain ⟨hb, h⟩ := bif_some' h
          have hb' : ¬ m' = 0 := by simpa using hb
          exact ⟨_, _, h, .int _ _ _, by simp [go_sem, Op.intDiv, hb']⟩
        · exact ⟨_, _, h, .int _ _ _, by simp only [eqGuard_at_int, pure_bind, binOp_and, Op.intBits]; rfl⟩
        · exact ⟨_, _, h, .int _ _ _, by simp only [eqGuard_at_int, pure_bind, binOp_or, Op.intBits]; rfl⟩
        · exact ⟨_, _, h, .int _ _ _, by simp only [eqGuard_at_int, pure_bind, binOp_xor, Op.intBits]; rfl⟩
        · exact ⟨_, _, h, .bool _ _, by simp only [eqGuard_at_int, pure_bind, binOp_eql]; rfl⟩
        · exact ⟨_, _, h, .bool _ _, by simp only [eqGuard_at_int, pure_bind, binOp_neq]; rfl⟩
        · exact ⟨_, _, h, .bool _ _, by simp only [eqGuard_at_int, pure_bind, binOp_lss]; rfl⟩
        · exact ⟨_, _, h, .bool _ _, by simp only [eqGuard_at_int, pure_bind, binOp_leq]; rfl⟩
        · exact ⟨_, _, h, .bool _ _, by simp only [eqGuard_at_int, pure_bind, binOp_gtr]; rfl⟩
        · exact ⟨_, _, h, .bool _ _, by simp only [eqGuard_at_int, pure_bind, binOp_geq]; rfl⟩
        · cases h
      · cases h
  · rename_i m m'
    rw [hx.str_inv, hz.str_inv]
    unfold binStr at h
    split at h
    · obtain ⟨hb, h⟩ := bif_some h
      have hle : m.length + m'.length ≤ 9223372036854775807 := by simpa [lenB] using hb
      refine ⟨_, .string ⟨(m ++ m').toArray⟩, h, .str _ _, ?_⟩
      have hn : ¬ (((ByteArray.mk m.toArray).size + (ByteArray.mk m'.toArray).size : Nat) : Int) > IntKind.i64.max := by
        show ¬ ((m.toArray.size + m'.toArray.size : Nat) : Int) > IntKind.i64.max
        rw [IntKind.max_i64]
        simp
        omega
      have happ : (ByteArray.mk m.toArray) ++ (ByteArray.mk m'.toArray) = ByteArray.mk (m ++ m').toArray := by
        apply ByteArray.ext
        simp
      simp only [eqGuard_at_string, pure_bind, binOp, Op.stringOp, if_neg hn, happ]
      rfl
    · exact ⟨_, _, h, .bool _ _, by simp only [eqGuard_at_string, pure_bind, binOp, Op.stringOp, toList_mk]; rfl⟩
    · exact ⟨_, _, h, .bool _ _, by simp only [eqGuard_at_string, pure_bind, binOp, Op.stringOp, toList_mk]; rfl⟩
    · exact ⟨_, _, h, .bool _ _, by simp only [eqGuard_at_string, pure_bind, binOp, Op.stringOp, toList_mk]; rfl⟩
    · exact ⟨_, _, h, .bool _ _, by simp only [eqGuard_at_string, pure_bind, binOp, Op.stringOp, toList_mk]; rfl⟩
    · exact ⟨_, _, h, .bool _ _, by simp only [eqGuard_at_string, pure_bind, binOp, Op.stringOp, toList_mk]; rfl⟩
    · exact ⟨_, _, h, .bool _ _, by simp only [eqGuard_at_string, pure_bind, binOp, Op.stringOp, toList_mk]; rfl⟩
    · cases h
  · rename_i m m'
    rw [hx.bool_inv, hz.bool_inv]
    split at h
    · rename_i hd
      have hrun : (Op.equal t (.bool m) (.bool m')).run P w = .ok (m == m') w := run_equalIn_bool' w 9999 t m m' hd
      split at h
      · refine ⟨_, _, h, .bool _ _, ?_⟩
        simp only [eqGuard_at_bool, pure_bind, binOp, Sem.run_bind, hrun, Result.andThen_ok, Sem.run_pure]
      · refine ⟨_, _, h, .bool _ _, ?_⟩
        simp only [eqGuard_at_bool, pure_bind, binOp, Sem.run_bind, hrun, Result.andThen_ok, Sem.run_pure]
      · cases h
    · cases h
  · rename_i cs ds
    obtain ⟨vs, rfl, hvs, _⟩ := hx.agg_inv
    obtain ⟨us, rfl, hus, _⟩ := hz.agg_inv
    split at h
    · rename_i b hb
      unfold eqStruct at hb
      split at hb
      · rename_i fs hfs
        split at hb
        · rename_i hok
          simp only [Bool.and_eq_true, Bool.not_eq_true'] at hok
          have hfo : P.fieldsOf t = fs := by simp [Program.fieldsOf, hfs]
          have hrun : (Op.equalIn 10000 t (.agg vs.toArray) (.agg us.toArray)).run P w = .ok b w := by
            rw [run_equalIn_struct w 9999 t _ _ (by rw [hfo]; exact hfs) hok.1, hfo]
            exact eqA_sound fs.toList 0 cs ds _ _ b hb (fun j c hc => by obtain ⟨u, hu, hr⟩ := hvs.at_ hc; exact ⟨u, by simpa using hu, hr⟩) (fun j c hc => by obtain ⟨u, hu, hr⟩ := hus.at_ hc; exact ⟨u, by simpa using hu, hr⟩) 9998
          split at h
          · exact ⟨_, _, h, .bool _ _, by simp [run_eqGuard_agg w _ t ox oz _ _ hok.2, run_eql_struct, hrun]⟩
          · exact ⟨_, _, h, .bool _ _, by simp [run_eqGuard_agg w _ t ox oz _ _ hok.2, run_neq_struct, hrun]⟩
          · cases h
        · cases hb
      · cases hb
    · cases h
  · cases h

theorem op_bin (hR : Rel w S B β og st a) (hO : Out w0 S0 B w S) {op : BinOp} {t t' : TypeId} {x z : Operand} (ho : o.op = .binOp op t x z t')
    (h : evBin P op t (valT P st.tm t x) (valT P st.tm t z) (fun v => y { v }) = some r) (hK : Good w0 S0 B site o st y r K) : o.wp P a w K Q := by
  obtain ⟨v, uu, hy, hv, hrun⟩ := bin_sound (ox := x) (oz := z) h (valT_rel hR.tm P t x) (valT_rel hR.tm P t z)
  refine op_slot hR hO hv hy hK ?_
  simp only [execOp, ho]
  rw [Sem.run_bind, hrun]
  rfl

theorem isNilC_eq {z : Operand} (h : isNilC z = true) : z = .const (.slice none 0 0) := by
  unfold isNilC at h
  split at h
  · rfl
  · cases h
theorem op_nil (hR : Rel w S B β og st a) (hO : Out w0 S0 B w S) {op : BinOp} {t t' : TypeId} {x z : Operand} (ho : o.op = .binOp op t x z t') (hz : isNilC z = true)
    (h : evNil P op t (valT P st.tm t x) (fun v => y { v }) = some r) (hK : Good w0 S0 B site o st y r K) : o.wp P a w K Q := by
  have hv := valT_rel hR.tm P t x
  rw [isNilC_eq hz] at ho
  have hc : a.eval (.const (.slice none 0 0)) = .slice none 0 0 := rfl
  unfold evNil at h
  split at h
  · rename_i e s es hd hx
    rw [hx] at hv
    generalize hu : a.eval x = u at hv
    cases hv with
    | slv _ _ _ A c ad xs hs hcap hm hA hl h1 hcx hh =>
      have heq : (Op.equal t (.slice A es.length c) (.slice none 0 0)).run P w = .ok A.isNone w := run_equal_slice_nil w t e A es.length c hd
      have hg : eqGuard op t x (.const (.slice none 0 0)) (.slice A es.length c) (.slice none 0 0) = pure () := by cases op <;> rfl
      have hex : ∀ b, es ≠ [] → A.isNone = b → b = false := fun b hne hb => by rw [(hA hne).1] at hb; exact hb.symm
      split at h
      · cases hes : es with
        | nil =>
          rw [hes] at h
          refine op_slot hR hO (u := .bool A.isNone) (.ubool _ _) h hK ?_
          simp only [execOp, ho, hu, hc, hg, pure_bind, binOp, Sem.run_bind, heq, Result.andThen_ok, Sem.run_pure]
        | cons e0 l =>
          have hb := hex _ (by rw [hes]; simp) rfl
          rw [hes] at h
          refine op_slot hR hO (u := .bool false) (.bool _ _) h hK ?_
          simp only [execOp, ho, hu, hc, hg, pure_bind, binOp, Sem.run_bind, heq, Result.andThen_ok, Sem.run_pure, hb]
      · cases hes : es with
        | nil =>
          rw [hes] at h
          refine op_slot hR hO (u := .bool !A.isNone) (.ubool _ _) h hK ?_
          simp only [execOp, ho, hu, hc, hg, pure_bind, binOp, Sem.run_bind, heq, Result.andThen_ok, Sem.run_pure]
        | cons e0 l =>
          have hb := hex _ (by rw [hes]; simp) rfl
          rw [hes] at h
          refine op_slot hR hO (u := .bool true) (.bool _ _) h hK ?_
          simp only [execOp, ho, hu, hc, hg, pure_bind, binOp, Sem.run_bind, heq, Result.andThen_ok, Sem.run_pure, hb, Bool.not_false]
      · cases h
  · cases h

theorem op_neg (hR : Rel w S B β og st a) (hO : Out w0 S0 B w S) {t : TypeId} {x : Operand} {k : IntKind} {n : Int} (ho : o.op = .unOp .neg t x) (hx : valT P st.tm t x = .int k n)
    (hy : y { v := .int k (k.wrap (0 - n)) } = some r) (hK : Good w0 S0 B site o st y r K) : o.wp P a w K Q := by
  have h := valT_rel hR.tm P t x
  rw [hx] at h
  exact op_slot hR hO (.int _ _ _) hy hK (by simp [execOp, ho, h.int_inv, Op.unary, Op.intArith])
theorem op_not (hR : Rel w S B β og st a) (hO : Out w0 S0 B w S) {t : TypeId} {x : Operand} {b : Bool} (ho : o.op = .unOp .not t x) (hx : valT P st.tm t x = .bool b)
    (hy : y { v := .bool !b } = some r) (hK : Good w0 S0 B site o st y r K) : o.wp P a w K Q := by
  have h := valT_rel hR.tm P t x
  rw [hx] at h
  exact op_slot hR hO (.bool _ _) hy hK (by simp [execOp, ho, h.bool_inv, Op.unary])

theorem op_convert_int (hR : Rel w S B β og st a) (hO : Out w0 S0 B w S) {src dst : TypeId} {x : Operand} {k0 k k1 : IntKind} {n : Int} (ho : o.op = .convert src dst x) (hs : P.underlying src = some (.int k0)) (hd : P.underlying dst = some (.int k)) (hx : valT P st.tm src x = .int k1 n)
    (hy : y { v := .int k (k.wrap n) } = some r) (hK : Good w0 S0 B site o st y r K) : o.wp P a w K Q := by
  have h := valT_rel hR.tm P src x
  rw [hx] at h
  exact op_slot hR hO (.int _ _ _) hy hK (by simp [execOp, ho, h.int_inv, convert, run_underlying hs, run_underlying hd, Conv.intToInt])
theorem op_convert_str (hR : Rel w S B β og st a) (hO : Out w0 S0 B w S) {src dst : TypeId} {x : Operand} {s : List UInt8} (ho : o.op = .convert src dst x) (hs : P.underlying src = some .string) (hd : P.underlying dst = some .string) (hx : valT P st.tm src x = .str s)
    (hy : y { v := .str s } = some r) (hK : Good w0 S0 B site o st y r K) : o.wp P a w K Q := by
  have h := valT_rel hR.tm P src x
  rw [hx] at h
  exact op_slot hR hO (.str _ _) hy hK (by simp [execOp, ho, h.str_inv, convert, run_underlying hs, run_underlying hd])

theorem op_field (hR : Rel w S B β og st a) (hO : Out w0 S0 B w S) {t : TypeId} {x : Operand} {f : Nat} (ho : o.op = .field t x f) {Γ : Env} {rowsV : List (Nat × Row)} (h : evOp P Γ site o st.tm rowsV y = some r) (hK : Good w0 S0 B site o st y r K) : o.wp P a w K Q := by
  have hv := valT_rel hR.tm P t x
  simp only [evOp, ho] at h
  split at h
  · rename_i fl hfl
    obtain ⟨fs, hfs, hf⟩ := fieldOf_spec hfl
    split at h
    · rename_i cs hx
      rw [hx] at hv
      obtain ⟨vs, he, hvs, h1⟩ := hv.agg_inv
      split at h
      · rename_i hag
        split at h
        · obtain ⟨d, hd⟩ := aggT_some hag
          obtain ⟨i, hi, hsz⟩ := underlying_info hd
          have hq := (hvs.drop fl.offset).take (P.cellsOf fl.type)
          refine op_slot hR hO (.agg _ _ _ hq.1 (fun u hu => h1 u (List.mem_of_mem_drop (List.mem_of_mem_take hu))) hq.2) h hK ?_
          simp [execOp, ho, he, Instr.field, run_underlying hfs, hf, asAgg, part, run_isAgg hd, hag, sizeOf, typeInfo, hi, hsz]
        · cases h
      · rename_i hag
        split at h
        · rename_i v hcv
          obtain ⟨u, hu, hr⟩ := hvs.at_ hcv
          split at h
          · rename_i hsome
            obtain ⟨d, hd⟩ := Option.isSome_iff_exists.1 hsome
            refine op_slot hR hO hr h hK ?_
            simp [execOp, ho, he, Instr.field, run_underlying hfs, hf, asAgg, part, run_isAgg hd, hag, hu]
          · cases h
        · cases h
    · cases h
  · cases h

end ops
end Go.Ev
