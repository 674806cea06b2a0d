/-
  bytes.SplitSeq: a function that hands back new memory.
-/
import Derived.Test.YtpmlhkoianekfaaGreatDoorEnB
import Derived.Lib.AppendIntMem
import Derived.Deep.LoopGhost
import Derived.Lib.OthersKept
import Derived.Laws.RangeAny
import Derived.Deep.QuietTactic
import Derived.BigQuiet
import Derived.Deep.RegionWith

namespace Go.Proofs.YtpmlhkoianekfaaGreatDoor
open Go.Ev Go.RowKit
theorem sum_flat {f : Nat} (hb : hasBody Tryz.prog f = true) {p : List AV → Tr AV}
    (h : ∀ (ρ : Type) (w : World) (S : Nat → Prop) (avs : List AV) (args : List Value) (k : AV → Option ρ) (r : ρ), Facts w → (∀ b, S b → b < w.heap.size) → VRels w S nob avs args → (p avs).run k = some r →
      ∃ u v, k v = some r ∧ v.flat = true ∧ VRel w S nob v u ∧ Calls Tryz.prog f args.toArray w (fun e w' => e = .returned u ∧ Below w.heap.size w w')) : SumOK Tryz.prog f (ofT p) ∧ SNat (ofT p) := by
  refine ⟨fun ρ w S avs args k r hS hv hk => ?_, snat_ofT p⟩
  obtain ⟨u, v, hk', hf, hv', hc⟩ := h ρ w S avs args k r (hS.2 w (Kept.refl _ _)) hS.1 hv hk
  refine .inl ⟨hb, hc.mono fun e w' hq => ?_⟩
  exact ⟨u, v, fun _ => False, hq.1, hk', hq.2, fun _ h => h.elim, fun _ h => h.elim, flat_free hv' hf⟩
def F131 : List AV → Tr AV
  | [.str s, .str p] => .gd (small s.length) (.leaf (.str (Lib.trimSuffix s p)))
  | _ => .no
theorem ok131 : SumOK Tryz.prog 131 (ofT F131) ∧ SNat (ofT F131) := by
  refine sum_flat (by kernel_rfl) fun ρ w S avs args k r hF hS hv h => ?_
  unfold F131 at h
  split at h
  · rename_i s p
    obtain ⟨hc, h⟩ := gd_some h
    obtain ⟨v, vs, rfl, h1, hv⟩ := hv.inv
    obtain ⟨u, us, rfl, h2, hv⟩ := hv.inv
    obtain rfl := hv.inv_nil
    rw [h1.str_inv, h2.str_inv]
    have hs : (ByteArray.mk s.toArray).size ≤ 9223372036854775807 := by
      rw [size_mk]; exact of_decide_eq_true hc
    exact ⟨_, _, h, rfl, .str _ _, (Tryz.strings_TrimSuffix ⟨s.toArray⟩ ⟨p.toArray⟩ w hs).mono fun e w' hq => ⟨by simpa using hq.1, hq.2 ▸ Below.refl _ _⟩⟩
  · cases h
def F55 : List AV → Tr AV
  | [.int .i64 n] => .gd (inR n (-9223372036854775808) 9223372036854775807) (.leaf (.str (Lib.itoa n)))
  | _ => .no
theorem ok55 : SumOK Tryz.prog 55 (ofT F55) ∧ SNat (ofT F55) := by
  refine sum_flat (by kernel_rfl) fun ρ w S avs args k r hF hS hv h => ?_
  unfold F55 at h
  split at h
  · rename_i n
    obtain ⟨hc, h⟩ := gd_some h
    obtain ⟨h0, h9⟩ := inR_spec hc
    obtain ⟨v, vs, rfl, h1, hv⟩ := hv.inv
    obtain rfl := hv.inv_nil
    rw [h1.int_inv]
    refine ⟨_, _, h, rfl, .str _ _, (Tryz.strconv_Itoa n h0 h9 w hF.2).mono fun e w' hq => ⟨hq.1, ?_⟩⟩
    obtain ⟨q, os, hq⟩ := hq.2
    rw [hq]
    exact Lib.below_grow w.heap.size w (Nat.le_refl _) q os
  · cases h
def F87 : List AV → Tr AV
  | [.str s, .int .i64 n] => .gd (decide (0 ≤ n) && (decide (n ≤ 9223372036854775807) && decide (s.length * n.toNat ≤ 140737488355328))) (.leaf (.str (Lib.repeatL s n.toNat)))
  | _ => .no
theorem ok87 : SumOK Tryz.prog 87 (ofT F87) ∧ SNat (ofT F87) := by
  refine sum_flat (by kernel_rfl) fun ρ w S avs args k r hF hS hv h => ?_
  unfold F87 at h
  split at h
  · rename_i s n
    obtain ⟨hc, h⟩ := gd_some h
    simp only [Bool.and_eq_true, decide_eq_true_eq] at hc
    obtain ⟨h0, h9, hl⟩ := hc
    obtain ⟨v, vs, rfl, h1, hv⟩ := hv.inv
    obtain ⟨u, us, rfl, h2, hv⟩ := hv.inv
    obtain rfl := hv.inv_nil
    obtain ⟨m, rfl⟩ : ∃ m : Nat, n = m := ⟨n.toNat, by omega⟩
    rw [h1.str_inv, h2.int_inv]
    exact ⟨_, _, h, rfl, .str _ _, (Tryz.strings_Repeat ⟨s.toArray⟩ m w (by omega) (by rw [size_mk]; exact hl)).mono fun e w' hq => ⟨by simpa using hq.1, hq.2⟩⟩
  · cases h
theorem ints_of {es : List AV} (h : ∀ e ∈ es, hasSh (.int .u8) e = true) : es = (es.map AV.toInt).map (AV.int .u8) := by
  rw [List.map_map]
  conv => lhs; rw [← List.map_id es]
  refine List.map_congr_left fun v hv => ?_
  have := h v hv
  cases v <;> simp [hasSh, has1] at this
  subst this
  rfl
theorem ints_vals {w : World} {S : Nat → Prop} {l : List Int} {xs : List Value} (hv : VRels w S nob (l.map (AV.int .u8)) xs) : xs = l.map (Value.int .u8) := by
  refine List.ext_getElem? fun j => ?_
  rw [List.getElem?_map]
  cases hj : l[j]? with
  | none =>
    have : xs.length = l.length := by rw [hv.1, List.length_map]
    rw [List.getElem?_eq_none (by rw [this]; exact List.getElem?_eq_none_iff.1 hj)]
    rfl
  | some n =>
    obtain ⟨u, hu, hr⟩ := hv.at_ (j := j) (c := .int .u8 n) (by rw [List.getElem?_map, hj]; rfl)
    rw [hu, hr.int_inv]
    rfl
theorem bytesOf_str (l : List Int) : Lib.bytesOf l = strAV (l.map (AV.int .u8)) := by
  unfold Lib.bytesOf strAV; rw [List.map_map]; rfl
def F182 : List AV → Tr AV
  | [.slv (.int .u8) es, .slv (.int .u8) fs] => .gd (decide (es.length < 4294967281) && (decide (2 ≤ fs.length) && (decide (fs.length ≤ 9223372036854775807) && (es.all bE && fs.all bE)))) (.leaf (.int .i64 (Lib.index (strAV es) (strAV fs))))
  | _ => .no
theorem short_index : ∀ (s p : List UInt8), s.length < p.length → Lib.index s p = -1
  | [], [], h => absurd h (Nat.lt_irrefl _)
  | [], _ :: _, _ => rfl
  | b :: l, p, h => by
    unfold Lib.index
    have hp : p.isPrefixOf (b :: l) = false := by
      cases hh : p.isPrefixOf (b :: l)
      · rfl
      · have := (List.isPrefixOf_iff_prefix.1 hh).length_le
        omega
    rw [hp, short_index l p (by simp at h; omega)]
    rfl
theorem ok182 : SumOK Tryz.prog 182 (ofT F182) ∧ SNat (ofT F182) := by
  refine sum_flat (by kernel_rfl) fun ρ w S avs args k r hF hS hv h => ?_
  unfold F182 at h
  split at h
  · rename_i es fs
    obtain ⟨hc, h⟩ := gd_some h
    simp only [Bool.and_eq_true, decide_eq_true_eq] at hc
    obtain ⟨hn, h2, hm, ha, hb⟩ := hc
    obtain ⟨v, vs, rfl, h1, hv⟩ := hv.inv
    obtain ⟨u, us, rfl, h3, hv⟩ := hv.inv
    obtain rfl := hv.inv_nil
    cases h1 with
    | slv _ _ _ A c a xs hs hcap hmx hA hl' h1' hx hr =>
      cases h3 with
      | slv _ _ _ A2 c2 a2 ys hs2 hcap2 hmx2 hA2 hl2 h12 hx2 hr2 =>
        by_cases hlt : es.length < fs.length
        · refine ⟨_, _, h, rfl, .int _ _ _, (Tryz.bytes_Index_longer A A2 es.length c fs.length c2 w h2 hlt hm).mono fun e w' hq => ⟨?_, hq.2 ▸ Below.refl _ _⟩⟩
          rw [short_index _ _ (by unfold strAV; rw [List.length_map, List.length_map]; exact hlt)]
          exact hq.1
        · obtain ⟨hA1, _⟩ := hA (fun e => by rw [e] at hlt; simp at hlt; rw [hlt] at h2; simp at h2)
          obtain ⟨hA21, _⟩ := hA2 (fun e => by rw [e] at h2; simp at h2)
          have e1 := ints_of hs
          have e2 := ints_of hs2
          generalize es.map AV.toInt = l at e1
          generalize fs.map AV.toInt = m at e2
          subst e1 e2
          rw [flat_ints] at hl' hr hl2 hr2
          obtain rfl := ints_vals ⟨hl', hr⟩
          obtain rfl := ints_vals ⟨hl2, hr2⟩
          have hr1 : ∀ (l : List Int), (l.map (AV.int .u8)).all bE = true → ∀ x ∈ l, 0 ≤ x ∧ x < 256 := fun l hl x hx => by
            have := List.all_eq_true.1 hl _ (List.mem_map_of_mem hx)
            unfold bE at this
            simp only [Bool.and_eq_true] at this
            obtain ⟨q0, q1⟩ := inR_spec this.2
            exact ⟨q0, Int.lt_of_le_of_lt q1 (by decide)⟩
          have hat : ∀ (l : List Int) (a : Addr), (∀ (j : Nat) (u : Value), (l.map (Value.int .u8))[j]? = some u → w.cell? (a.add j) = some u) → ∀ i, i < l.length → w.cell? (a.add i) = some (.int .u8 (l.getD i 0)) := fun l a hx i hi => by
            refine hx i _ ?_
            rw [List.getElem?_map, List.getElem?_eq_getElem hi, List.getD, List.getElem?_eq_getElem hi]
            rfl
          rw [hA1, hA21]
          simp only [List.length_map] at hcap hn hm hcap2 ⊢
          obtain ⟨mx, hmx⟩ := hF.1
          refine ⟨_, _, h, rfl, .int _ _ _, (Tryz.bytes_Index_at a a2 l.length c m.length c2 l m mx w rfl rfl (hr1 l ha) (hr1 m hb) (hat l a hx) (hat m a2 hx2) hcap hn hm hmx).mono fun e w' hq => ⟨?_, ?_⟩⟩
          · rw [hq.1, bytesOf_str, bytesOf_str]
          · obtain ⟨q, hq⟩ := hq.2
            rw [hq]
            exact ⟨rfl, rfl, rfl, Nat.le_refl _, fun _ _ => rfl⟩
  · cases h
end Go.Proofs.YtpmlhkoianekfaaGreatDoor


namespace Go.Proofs.YtpmlhkoianekfaaGreatDoor
open Go.Ev Go.RowKit Go.Lib
set_option maxHeartbeats 2000000 in
set_option maxRecDepth 1000000 in
theorem run214_bad (s : ByteArray) (r : Int) (w : World) (h0 : 128 ≤ r) (hne : r ≠ 65533) (hb : Lib.validRune r = false) :
    Calls Tryz.prog 214 #[.string s, .int .i32 r] w fun e w' => e = .returned (.int .i64 (-1)) ∧ w' = w := by
  have e251 : ∀ args w, (callFunc 251 args).run Tryz.prog w = .ok (.enter 251 args) w := enters_of Tryz.func251 (by kernel_rfl) rfl
  have hv := Tryz.utf8_ValidRune r
  rw [hb] at hv
  clear hb
  have n1 : ¬ r < 128 := by omega
  have n2 : (r == 65533) = false := by simpa using hne
  clear hne
  go_enter Tryz.func214, Tryz.ntmps214
  go_wp2_with (go_at_fn 251; refine (hv _).mono ?_; rintro e w' ⟨rfl, rfl⟩)
  go_ret
  exact ⟨rfl, rfl⟩
theorem no_byte {l : List UInt8} (h : ∀ b ∈ l, b.toNat < 128) {c : UInt8} (hc : 128 ≤ c.toNat) : Lib.indexByte l c = -1 := by
  induction l with
  | nil => rfl
  | cons b l ih =>
    have h1 := h b (by simp)
    have hne : (b == c) = false := by
      cases hh : b == c
      · rfl
      · have := eq_of_beq hh; subst this; omega
    unfold Lib.indexByte
    rw [hne, ih (fun x hx => h x (by simp [hx]))]
    rfl
theorem iter_below (w : World) (s : ByteArray) (i : Nat) : Below w.heap.size w (w.iter s i) := (Below.refl _ _).alloc (Nat.le_refl _) _
set_option maxHeartbeats 4000000 in
set_option maxRecDepth 1000000 in
theorem run214_two (r : Int) (w : World) (h0 : 128 ≤ r) (hne : r ≠ 65533) (hb : Lib.validRune r = true) (a c : UInt8) (hrs : Utf8.encode r = ⟨#[a, c]⟩) (hc : 128 ≤ c.toNat) :
    Calls Tryz.prog 214 #[.string ⟨#[13, 10, 0]⟩, .int .i32 r] w fun e w' => e = .returned (.int .i64 (-1)) ∧ Below w.heap.size w w' := by
  have e251 : ∀ args w, (callFunc 251 args).run Tryz.prog w = .ok (.enter 251 args) w := enters_of Tryz.func251 (by kernel_rfl) rfl
  have e62 : ∀ args w, (callFunc 62 args).run Tryz.prog w = .ok (.enter 62 args) w := enters_of Tryz.func62 (by kernel_rfl) rfl
  have hv := Tryz.utf8_ValidRune r
  rw [hb] at hv
  clear hb
  have n1 : ¬ r < 128 := by omega
  have n2 : (r == 65533) = false := by simpa using hne
  clear hne
  go_enter Tryz.func214, Tryz.ntmps214
  go_wp2_with (go_at_fn 251; refine (hv _).mono ?_; rintro e w' ⟨rfl, hw⟩; rw [hw])
  go_step3
  go_wp2
  go_loopg [9, 10, 11, 12] 1 (fun g i _ _ _ wx => g = 1 ∧ i = .int .i64 1 ∧ wx = w)
  case atStart => exact ⟨rfl, by simp, rfl⟩
  case round =>
    obtain ⟨rfl, rfl, rfl⟩ := hrel
    have hib := fun w => Tryz.strings_IndexByte ((ByteArray.mk #[13, 10, 0]).extract 2 3) (((ByteArray.mk #[a, c])[1]'(by show 1 < 2; decide)).toNat : Int) w
    rw [show Lib.indexByte ((ByteArray.mk #[13, 10, 0]).extract 2 3).data.toList (((ByteArray.mk #[a, c])[1]'(by show 1 < 2; decide)).toNat : Int).toNat.toUInt8 = -1 from no_byte (by decide) (by show 128 ≤ ((c.toNat : Int).toNat.toUInt8).toNat; simpa using hc)] at hib
    have d1 : ((((ByteArray.mk #[13, 10, 0])[1]'(by show 1 < 3; decide)).toNat : Int) != (((ByteArray.mk #[a, c])[1]'(by show 1 < 2; decide)).toNat : Int)) = true := by
      show ((10 : Int) != (c.toNat : Int)) = true
      rw [bne_iff_ne]
      omega
    go_wp2
    go_step3
    go_wp2
    go_quiet (fail)
    go_wp2
    go_quiet (first | (go_at_call 62; exact (hib _).mono (fun e w' hq => ⟨hq.1, _, hq.2⟩)))
    go_wp2
    simp only [Exit.noGoto, Exit.inBlock, Exit.then]
    go_ret
    exact ⟨rfl, ⟨rfl, rfl, rfl, Nat.le_refl _, fun _ _ => rfl⟩⟩
set_option maxHeartbeats 4000000 in
set_option maxRecDepth 1000000 in
theorem run214_three (r : Int) (w : World) (h0 : 128 ≤ r) (hne : r ≠ 65533) (hb : Lib.validRune r = true) (a b c : UInt8) (hrs : Utf8.encode r = ⟨#[a, b, c]⟩) (hc : 128 ≤ c.toNat) :
    Calls Tryz.prog 214 #[.string ⟨#[13, 10, 0]⟩, .int .i32 r] w fun e w' => e = .returned (.int .i64 (-1)) ∧ Below w.heap.size w w' := by
  have e251 : ∀ args w, (callFunc 251 args).run Tryz.prog w = .ok (.enter 251 args) w := enters_of Tryz.func251 (by kernel_rfl) rfl
  have e62 : ∀ args w, (callFunc 62 args).run Tryz.prog w = .ok (.enter 62 args) w := enters_of Tryz.func62 (by kernel_rfl) rfl
  have hv := Tryz.utf8_ValidRune r
  rw [hb] at hv
  clear hb
  have n1 : ¬ r < 128 := by omega
  have n2 : (r == 65533) = false := by simpa using hne
  clear hne
  go_enter Tryz.func214, Tryz.ntmps214
  go_wp2_with (go_at_fn 251; refine (hv _).mono ?_; rintro e w' ⟨rfl, hw⟩; rw [hw])
  go_step3
  go_wp2
  go_loopg [9, 10, 11, 12] 1 (fun g i _ _ _ wx => g = 1 ∧ i = .int .i64 2 ∧ wx = w)
  case atStart => exact ⟨rfl, by simp, rfl⟩
  case round =>
    obtain ⟨rfl, rfl, rfl⟩ := hrel
    have hib := fun w => Tryz.strings_IndexByte ((ByteArray.mk #[13, 10, 0]).extract 3 3) (((ByteArray.mk #[a, b, c])[2]'(by show 2 < 3; decide)).toNat : Int) w
    rw [show Lib.indexByte ((ByteArray.mk #[13, 10, 0]).extract 3 3).data.toList (((ByteArray.mk #[a, b, c])[2]'(by show 2 < 3; decide)).toNat : Int).toNat.toUInt8 = -1 from no_byte (by decide) (by show 128 ≤ ((c.toNat : Int).toNat.toUInt8).toNat; simpa using hc)] at hib
    have d1 : ((((ByteArray.mk #[13, 10, 0])[2]'(by show 2 < 3; decide)).toNat : Int) != (((ByteArray.mk #[a, b, c])[2]'(by show 2 < 3; decide)).toNat : Int)) = true := by
      show ((0 : Int) != (c.toNat : Int)) = true
      rw [bne_iff_ne]
      omega
    go_wp2
    go_step3
    go_wp2
    go_quiet (fail)
    go_wp2
    go_quiet (first | (go_at_call 62; exact (hib _).mono (fun e w' hq => ⟨hq.1, _, hq.2⟩)))
    go_wp2
    simp only [Exit.noGoto, Exit.inBlock, Exit.then]
    go_ret
    exact ⟨rfl, ⟨rfl, rfl, rfl, Nat.le_refl _, fun _ _ => rfl⟩⟩
set_option maxHeartbeats 4000000 in
set_option maxRecDepth 1000000 in
theorem run214_four (r : Int) (w : World) (h0 : 128 ≤ r) (hne : r ≠ 65533) (hb : Lib.validRune r = true) (a b d c : UInt8) (hrs : Utf8.encode r = ⟨#[a, b, d, c]⟩) (_hc : 128 ≤ c.toNat) :
    Calls Tryz.prog 214 #[.string ⟨#[13, 10, 0]⟩, .int .i32 r] w fun e w' => e = .returned (.int .i64 (-1)) ∧ Below w.heap.size w w' := by
  have e251 : ∀ args w, (callFunc 251 args).run Tryz.prog w = .ok (.enter 251 args) w := enters_of Tryz.func251 (by kernel_rfl) rfl
  have e62 : ∀ args w, (callFunc 62 args).run Tryz.prog w = .ok (.enter 62 args) w := enters_of Tryz.func62 (by kernel_rfl) rfl
  have hv := Tryz.utf8_ValidRune r
  rw [hb] at hv
  clear hb
  have n1 : ¬ r < 128 := by omega
  have n2 : (r == 65533) = false := by simpa using hne
  clear hne
  go_enter Tryz.func214, Tryz.ntmps214
  go_wp2_with (go_at_fn 251; refine (hv _).mono ?_; rintro e w' ⟨rfl, hw⟩; rw [hw])
  go_step3
  go_wp2
  go_loopg [9, 10, 11, 12] 1 (fun g i _ _ _ wx => g = 1 ∧ i = .int .i64 3 ∧ wx = w)
  case atStart => exact ⟨rfl, by simp, rfl⟩
  case round =>
    obtain ⟨rfl, rfl, rfl⟩ := hrel
    go_wp2
    simp only [Exit.noGoto, Exit.inBlock]
    go_wp2
    go_ret
    exact ⟨rfl, Below.refl _ _⟩
set_option maxHeartbeats 4000000 in
set_option maxRecDepth 1000000 in
theorem run214_err (w : World) :
    Calls Tryz.prog 214 #[.string ⟨#[13, 10, 0]⟩, .int .i32 65533] w fun e w' => e = .returned (.int .i64 (-1)) ∧ Below w.heap.size w w' := by
  have hs : (ByteArray.mk #[13, 10, 0]).size = 3 := rfl
  go_enter Tryz.func214, Tryz.ntmps214
  go_wp2
  go_loopg [5, 6] 3 (fun g _ _ wx => ∃ i : Nat, i + g = 3 ∧ wx = w.iter ⟨#[13, 10, 0]⟩ i)
  case atStart => exact ⟨0, by omega, rfl⟩
  case round =>
    obtain ⟨i, hig, rfl⟩ := hrel
    cases gk with
    | zero =>
      obtain rfl : i = 3 := by omega
      have hnx := fun ty => run_next_end (P := Tryz.prog) w ⟨#[13, 10, 0]⟩ 3 ty (by decide)
      go_wp2
      go_ret
      exact ⟨rfl, iter_below _ _ _⟩
    | succ g =>
      have hi : i < (ByteArray.mk #[13, 10, 0]).size := by rw [hs]; omega
      have hx128 : ((ByteArray.mk #[13, 10, 0])[i]'hi).toNat < 128 := by
        have : ∀ i (hi : i < (ByteArray.mk #[13, 10, 0]).size), ((ByteArray.mk #[13, 10, 0])[i]'hi).toNat < 128 := by decide
        exact this i hi
      have hnx := fun ty => run_next_ascii (P := Tryz.prog) w ⟨#[13, 10, 0]⟩ i ty hi hx128
      have hne : ((((ByteArray.mk #[13, 10, 0])[i]'hi).toNat : Int) == 65533) = false := by
        rw [beq_eq_false_iff_ne]; omega
      go_wp2
      go_roundg g
      case measure => omega
      case rel => exact ⟨i + 1, by omega, rfl⟩
theorem run214_hi (r : Int) (w : World) (h0 : 128 ≤ r) :
    Calls Tryz.prog 214 #[.string ⟨#[13, 10, 0]⟩, .int .i32 r] w fun e w' => e = .returned (.int .i64 (-1)) ∧ Below w.heap.size w w' := by
  by_cases hne : r = 65533
  · subst hne; exact run214_err w
  · cases hb : Lib.validRune r
    · exact (run214_bad ⟨#[13, 10, 0]⟩ r w h0 hne hb).mono fun e w' hq => ⟨hq.1, hq.2 ▸ Below.refl _ _⟩
    · have hv : Utf8.valid r = true := by
        unfold Lib.validRune at hb
        unfold Utf8.valid
        simp only [decide_eq_true_eq, Bool.or_eq_true, Bool.and_eq_true] at hb ⊢
        omega
      have hlast : ∀ n : Nat, 128 ≤ (UInt8.ofNat (0x80 + n % 64)).toNat := fun n => by
        rw [UInt8.toNat_ofNat_of_lt' (by show _ < 256; omega)]; omega
      have he : Utf8.encode r = if r.toNat < 0x80 then ⟨#[UInt8.ofNat r.toNat]⟩
          else if r.toNat < 0x800 then ⟨#[UInt8.ofNat (0xC0 + r.toNat / 64), UInt8.ofNat (0x80 + r.toNat % 64)]⟩
          else if r.toNat < 0x10000 then ⟨#[UInt8.ofNat (0xE0 + r.toNat / 4096), UInt8.ofNat (0x80 + r.toNat / 64 % 64), UInt8.ofNat (0x80 + r.toNat % 64)]⟩
          else ⟨#[UInt8.ofNat (0xF0 + r.toNat / 262144), UInt8.ofNat (0x80 + r.toNat / 4096 % 64), UInt8.ofNat (0x80 + r.toNat / 64 % 64), UInt8.ofNat (0x80 + r.toNat % 64)]⟩ := by
        unfold Utf8.encode
        simp only [hv, if_true]
      rw [if_neg (by omega)] at he
      by_cases h2 : r.toNat < 0x800
      · rw [if_pos h2] at he
        exact run214_two r w h0 hne hb _ _ he (hlast _)
      · rw [if_neg h2] at he
        by_cases h3 : r.toNat < 0x10000
        · rw [if_pos h3] at he
          exact run214_three r w h0 hne hb _ _ _ he (hlast _)
        · rw [if_neg h3] at he
          exact run214_four r w h0 hne hb _ _ _ _ he (hlast _)
theorem decode_cont (s : ByteArray) (pos k : Nat) (h1 : 1 ≤ k) (h2 : k < (Utf8.decode s pos).2) : 128 ≤ (s.get! (pos + k)).toNat := by
  simp only [Utf8.decode] at h2
  have hk : k = 1 ∨ k = 2 ∨ k = 3 := by
    repeat' split at h2
    all_goals (simp only [] at h2; omega)
  rcases hk with rfl | rfl | rfl
  all_goals
    repeat' split at h2
  all_goals (simp only [Bool.and_eq_true, decide_eq_true_eq, beq_iff_eq] at *; omega)
theorem decode_room (s : ByteArray) (pos : Nat) (h : pos < s.size) : pos + (Utf8.decode s pos).2 ≤ s.size := by
  simp only [Utf8.decode]
  repeat' split
  all_goals (simp only [Bool.and_eq_true, decide_eq_true_eq, beq_iff_eq] at *; omega)
theorem crlf0_no {b : UInt8} (h : 128 ≤ b.toNat) : [(13 : UInt8), 10, 0].contains b = false := by
  cases hc : [(13 : UInt8), 10, 0].contains b
  · rfl
  · simp at hc
    rcases hc with rfl | rfl | rfl <;> simp at h
theorem noAny_far {s : List UInt8} {c : List UInt8} {i n : Nat} (h : Lib.NoAny s c i) (hn : ∀ j b, i ≤ j → j < n → s[j]? = some b → c.contains b = false) : Lib.NoAny s c n := fun j b hj hb => by
  by_cases hlt : j < i
  · exact h j b hlt hb
  · exact hn j b (by omega) hj hb
set_option maxHeartbeats 8000000 in
set_option maxRecDepth 1000000 in
theorem run250_short (s : ByteArray) (w : World) (h8 : s.size ≤ 8) :
    Calls Tryz.prog 250 #[.string s, .string ⟨#[13, 10, 0]⟩] w fun e w' => e = .returned (.int .i64 (Lib.indexAny s.data.toList [13, 10, 0])) ∧ Below w.heap.size w w' := by
  have h8z : decide ((8 : Int) < (s.size : Int)) = false := decide_eq_false (by omega)
  have e214 : ∀ args w, (callFunc 214 args).run Tryz.prog w = .ok (.enter 214 args) w := enters_of Tryz.func214 (by kernel_rfl) rfl
  have e272 : ∀ args w, (callFunc 272 args).run Tryz.prog w = .ok (.enter 272 args) w := enters_of Tryz.func272 (by kernel_rfl) rfl
  have hasc := fun r => Tryz.strings_IndexRune_ascii ⟨#[13, 10, 0]⟩ r
  go_enter Tryz.func250, Tryz.ntmps250
  go_wp2_with (go_at_fn 272; refine (Tryz.strings_shouldUseASCIISet _ _).mono ?_; rintro e w' ⟨rfl, hw⟩; rw [hw, h8z])
  go_loopg [9, 10] s.size (fun g _ _ wx => ∃ pos : Nat, pos ≤ s.size ∧ s.size - pos ≤ g ∧ Below w.heap.size w wx ∧ wx.heap[w.heap.size]? = some (.stringIter s pos) ∧ Lib.NoAny s.data.toList [13, 10, 0] pos)
  case atStart => exact ⟨0, by omega, by omega, iter_below w s 0, World.iter_heap w s 0, Lib.NoAny.zero _ _⟩
  case round =>
    obtain ⟨pos, hle, hg, hbel, hit, hno⟩ := hrel
    have HN : Aside (Lib.NoAny s.data.toList [13, 10, 0] pos) := hno
    clear hno
    by_cases hlt : pos < s.size
    · cases gk with
      | zero => exact absurd hg (by omega)
      | succ g =>
        obtain ⟨x, hx⟩ : ∃ x : UInt8, s[pos]'hlt = x := ⟨_, rfl⟩
        have hxl : s.data.toList[pos]? = some x := by rw [← hx]; exact Lib.data_getElem? s pos hlt
        have hlt2 : w.heap.size < wr.heap.size := (Array.getElem?_eq_some_iff.1 hit).1
        by_cases hx128 : x.toNat < 128
        · have hnx := fun ty => Lib.run_next_ascii_at (P := Tryz.prog) wr w.heap.size s pos ty hit hlt (by rw [hx]; exact hx128)
          rw [hx] at hnx
          have Hx : Aside (s.data.toList[pos]? = some x) := hxl
          clear hxl hx
          have hcon := Lib.contains_iff_indexByte [13, 10, 0] x
          have hback : ((x.toNat : Int)).toNat.toUInt8 = x := by simp
          have hi156 := hasc (x.toNat : Int) (wr.iterAt w.heap.size s (pos + 1)) (by omega) (by omega)
          rw [hback] at hi156
          have hit' := Lib.iterAt_heap wr w.heap.size s pos (pos + 1) hit
          have hbel' := Lib.below_iterAt hbel (Nat.le_refl _) s (pos + 1)
          cases hin : [(13 : UInt8), 10, 0].contains x
          · rw [hin] at hcon
            have hl : ¬ ((0 : Int) ≤ Lib.indexByte [13, 10, 0] x) := of_decide_eq_false hcon.symm
            clear hcon
            go_wp2_with (go_at_fn 214; refine hi156.mono ?_; rintro e w' ⟨rfl, hw⟩; rw [hw])
            go_roundg g
            case measure => omega
            case rel => exact ⟨pos + 1, by omega, by omega, hbel', hit', HN.out.succ Hx.out hin⟩
          · rw [hin] at hcon
            have hl : (0 : Int) ≤ Lib.indexByte [13, 10, 0] x := of_decide_eq_true hcon.symm
            clear hcon
            go_wp2_with (go_at_fn 214; refine hi156.mono ?_; rintro e w' ⟨rfl, hw⟩; rw [hw])
            go_ret
            exact ⟨by rw [Lib.indexAny_hit HN.out Hx.out hin]; rfl, hbel'⟩
        · have hhi := decode_high s pos hlt (by rw [hx]; omega)
          have hnx := fun ty => Lib.run_next_any_at (P := Tryz.prog) wr w.heap.size s pos ty hit hlt
          have hcont := decode_cont s pos
          have hroom := decode_room s pos hlt
          obtain ⟨d, hd⟩ : ∃ d, Utf8.decode s pos = d := ⟨_, rfl⟩
          rw [hd] at hnx hhi hcont hroom
          obtain ⟨dr, dw⟩ := d
          simp only [] at hnx hhi hcont hroom
          have hi156 := run214_hi (dr : Int) (wr.iterAt w.heap.size s (pos + dw)) (by omega)
          have hit' := Lib.iterAt_heap wr w.heap.size s pos (pos + dw) hit
          have hbel' := Lib.below_iterAt hbel (Nat.le_refl _) s (pos + dw)
          have hskip : ∀ n, n ≤ pos + dw → n ≤ s.size → Lib.NoAny s.data.toList [13, 10, 0] n := fun n hn hns => noAny_far HN.out fun j b hj hjn hb => by
            have hjs : j < s.size := by omega
            have hb' : b = s[j]'hjs := by
              have := Lib.data_getElem? s j hjs
              rw [this] at hb
              exact (Option.some.inj hb).symm
            refine crlf0_no ?_
            by_cases hjp : j = pos
            · subst hjp; rw [hb', hx]; omega
            · have := hcont (j - pos) (by omega) (by omega)
              have hg2 := get_at s j hjs
              rw [show pos + (j - pos) = j + 0 by omega, hg2] at this
              rw [hb']; exact this
          have Hs : Aside (∀ n, n ≤ pos + dw → n ≤ s.size → Lib.NoAny s.data.toList [13, 10, 0] n) := hskip
          clear hskip hcont hd
          go_wp2_with (go_at_fn 214; refine hi156.mono ?_; rintro e w' ⟨rfl, hw⟩)
          go_roundg g
          case measure => omega
          case rel => exact ⟨pos + dw, hroom, by omega, hbel'.trans (hw.mono (by rw [Lib.iterAt_size]; omega)), (hw.block _ (by rw [Lib.iterAt_size]; exact hlt2)).trans hit', Hs.out _ (Nat.le_refl _) hroom⟩
    · obtain rfl : pos = s.size := by omega
      have hnx := fun ty => Lib.run_next_end_at (P := Tryz.prog) wr w.heap.size s s.size ty hit (Nat.lt_irrefl _)
      go_wp2
      go_ret
      exact ⟨by rw [Lib.indexAny_none (by rw [← Lib.size_eq]; exact HN.out)]; rfl, hbel⟩
theorem run250 (s : ByteArray) (w : World) (hs : s.size < 4294967281) :
    Calls Tryz.prog 250 #[.string s, .string ⟨#[13, 10, 0]⟩] w fun e w' => e = .returned (.int .i64 (Lib.indexAny s.data.toList [13, 10, 0])) ∧ Below w.heap.size w w' := by
  by_cases h8 : s.size ≤ 8
  · exact run250_short s w h8
  · have hz : ∀ w, (zeroValue 191).run Tryz.prog w = .ok (.agg (Array.replicate 256 (.bool false))) w := (zero_of_info (n := 256) (by kernel_rfl)).1
    refine (Tryz.strings_IndexAny_long hz s ⟨#[13, 10, 0]⟩ w (by decide) (by omega) hs (by decide) (fun j b hj => ?_)).mono fun e w' hq => ⟨hq.1, ?_⟩
    · have hb : b ∈ [(13 : UInt8), 10, 0] := List.mem_of_getElem? hj
      simp at hb
      rcases hb with rfl | rfl | rfl <;> decide
    · rw [hq.2]
      exact ((Below.refl _ _).alloc (Nat.le_refl _) _).alloc (by simp) _
def F162 : List AV → Tr AV
  | [.str s] => .gd (decide (s.length < 4294967281)) (.leaf (.bool (Lib.containsAny s [13, 10, 0])))
  | _ => .no
theorem run162 (s : ByteArray) (w : World) (hs : s.size < 4294967281) :
    Calls Tryz.prog 162 #[.string s] w fun e w' => e = .returned (.bool (Lib.containsAny s.data.toList [13, 10, 0])) ∧ Below w.heap.size w w' := by
  have e213 : ∀ args w, (callFunc 213 args).run Tryz.prog w = .ok (.enter 213 args) w := enters_of Tryz.func213 (by kernel_rfl) rfl
  have e250 : ∀ args w, (callFunc 250 args).run Tryz.prog w = .ok (.enter 250 args) w := enters_of Tryz.func250 (by kernel_rfl) rfl
  have h147 := run250 s w hs
  have h130 : Calls Tryz.prog 213 #[.string s, .string ⟨#[13, 10, 0]⟩] w fun e w' => e = .returned (.bool (Lib.containsAny s.data.toList [13, 10, 0])) ∧ Below w.heap.size w w' := by
    go_enter Tryz.func213, Tryz.ntmps213
    go_wp2_with (go_at_fn 250; refine h147.mono ?_; rintro e w' ⟨rfl, hw⟩)
    go_ret
    exact ⟨rfl, hw⟩
  go_enter Tryz.func162, Tryz.ntmps162
  go_wp2_with (go_at_fn 213; refine h130.mono ?_; rintro e w' ⟨rfl, hw⟩)
  go_ret
  exact ⟨rfl, hw⟩
theorem ok162 : SumOK Tryz.prog 162 (ofT F162) ∧ SNat (ofT F162) := by
  refine sum_flat (by kernel_rfl) fun ρ w S avs args k r hF hS hv h => ?_
  unfold F162 at h
  split at h
  · rename_i s
    obtain ⟨hc, h⟩ := gd_some h
    obtain ⟨v, vs, rfl, h1, hv⟩ := hv.inv
    obtain rfl := hv.inv_nil
    rw [h1.str_inv]
    exact ⟨_, _, h, rfl, .bool _ _, run162 ⟨s.toArray⟩ w (by rw [Ev.size_mk]; exact of_decide_eq_true hc)⟩
  · cases h
end Go.Proofs.YtpmlhkoianekfaaGreatDoor


namespace Go.Proofs.YtpmlhkoianekfaaGreatDoor
open Go.Ev
def isB' (n : Int) : Bool := n == 32 || n == 9
def F71 : List AV → Tr AV
  | [.int .u8 n] => .leaf (.bool (isB' n))
  | _ => .no
theorem ok71 : SumOK Tryz.prog 71 (ofT F71) ∧ SNat (ofT F71) := by
  refine fn0 g0 Tryz.func71 (by kernel_rfl) fun ρ avs k r h => ?_
  unfold F71 at h
  split at h
  · rename_i n
    have hk := h
    refine Eq.trans (b := bif n == (32 : Int) then k (AV.bool true) else k (AV.bool (n == (9 : Int)))) (by kernel_rfl) ?_
    rw [← hk]
    show _ = k (.bool (n == 32 || n == 9))
    cases n == 32 <;> rfl
  · cases h
noncomputable def G106 : Env := { pure := [(162, ofT F162), (71, ofT F71)] }
theorem g106 : GOK Tryz.prog G106 := GOK.also (GOK.also g0 ok71) ok162
def vlB (s : List UInt8) : Bool := !Lib.containsAny s [13, 10, 0] && (s == [] || (!isB' (atI s 0) && !isB' (atI s (s.length - 1))))
def F106 : List AV → Tr AV
  | [.str s] => .gd (decide (s.length < 4294967281)) (.leaf (.bool (vlB s)))
  | _ => .no
theorem ok106 : SumOK Tryz.prog 106 (ofT F106) ∧ SNat (ofT F106) := by
  refine fn0 g106 Tryz.func106 (by kernel_rfl) fun ρ avs k r h => ?_
  unfold F106 at h
  split at h
  · rename_i s
    obtain ⟨hc, hk⟩ := gd_some h
    have hn := of_decide_eq_true hc
    refine Eq.trans (b := bif decide (s.length < (4294967281 : Nat)) then bif !Lib.containsAny s [(13 : UInt8), (10 : UInt8), (0 : UInt8)] then bif s == ([] : List UInt8) then k (AV.bool true) else bif inb (0 : Int) s.length then bif !isB' (↑(s.getD (0 : Nat) (0 : UInt8)).toNat : Int) then bif inb (IntKind.i64.wrap ((↑s.length : Int) - (1 : Int))) s.length then k (AV.bool !isB' (↑(s.getD (IntKind.i64.wrap ((↑s.length : Int) - (1 : Int))).toNat (0 : UInt8)).toNat : Int)) else none else k (AV.bool false) else none else k (AV.bool false) else none) (by kernel_rfl) ?_
    rw [← hk, hc]
    have hv : vlB s = (!Lib.containsAny s [13, 10, 0] && (s == [] || (!isB' (atI s 0) && !isB' (atI s (s.length - 1))))) := rfl
    cases h1 : Lib.containsAny s [13, 10, 0]
    · cases s with
      | nil => rw [hv, h1]; rfl
      | cons c s =>
        have hl : (c :: s).length = s.length + 1 := rfl
        have w1 : IntKind.i64.wrap (((c :: s).length : Int) - 1) = ((s.length : Nat) : Int) := by rw [wrap_small _ (by omega) (by omega)]; omega
        have e0 : inb 0 (c :: s).length = true := inb_true (by omega) (by omega)
        have e1 : inb ((s.length : Nat) : Int) (c :: s).length = true := inb_true (by omega) (by omega)
        have hne : ((c :: s) == ([] : List UInt8)) = false := rfl
        rw [hv, h1, hne]
        simp only [w1, e0, e1, cond_true, cond_false, Bool.not_false, Bool.true_and, Bool.false_or]
        have ez : atI (c :: s) 0 = (((c :: s).getD 0 (0 : UInt8)).toNat : Int) := rfl
        have el : atI (c :: s) ((c :: s).length - 1) = (((c :: s).getD ((s.length : Nat) : Int).toNat (0 : UInt8)).toNat : Int) := by
          rw [Int.toNat_natCast]; rfl
        rw [el, ez]
        cases isB' (((c :: s).getD 0 (0 : UInt8)).toNat : Int) <;> rfl
    · rw [hv, h1]; rfl
  · cases h
noncomputable def G107 : Env := { pure := [(71, ofT F71)] }
theorem g107 : GOK Tryz.prog G107 := GOK.also g0 ok71
noncomputable def b107 : Code := ((Tryz.f107.body.map loopsOf).getD []).headD .skip
def brk (s : List UInt8) (i : Nat) : Bool := isB' (atI s i) && !isB' (atI s (i - 1))
def ptL (s : List UInt8) : Nat → Int → Nat → Int × Nat
  | 0, b, i => (b, i)
  | n + 1, b, i => bif brk s i then (bif decide (b > 0) && decide ((i : Int) > 78) then (b, i) else ptL s n i (i + 1)) else ptL s n b (i + 1)
theorem ptL_step (s : List UInt8) (n : Nat) (b : Int) (i : Nat) : ptL s (n + 1) b i = bif brk s i then (bif decide (b > 0) && decide ((i : Int) > 78) then (b, i) else ptL s n i (i + 1)) else ptL s n b (i + 1) := rfl
def L107 : List AV → List (Option Row) → Tr LOut
  | [.str s, .int .i64 b, .int .i64 i], [] =>
    .gd (cnt s.length i s.length && decide (1 ≤ i)) (.leaf (.exit 0, [.str s, .int .i64 (ptL s (s.length - i.toNat) b i.toNat).1, .int .i64 (ptL s (s.length - i.toNat) b i.toNat).2], []))
  | _, _ => .no
def l107 : Ev.Loop := ⟨{ len := 35, slots := [0, 5, 6] }, ofL L107⟩
def μ107 (vs : List AV) (_ : List (Option Row)) : Nat := match vs with
  | [.str s, _, .int _ i] => ((s.length : Int) - i).toNat
  | _ => 0
theorem loop107 : LoopOK Tryz.prog G107 [(3, l107)] b107 l107 := by
  refine loopT g107.natOK rfl (KOK.nil (by kernel_rfl)) μ107 (fun ρ vs rs k r h => ?_)
  unfold L107 at h
  split at h
  · rename_i s b i
    obtain ⟨hc, hk⟩ := gd_some h
    simp only [Bool.and_eq_true, decide_eq_true_eq] at hc
    obtain ⟨hc, h1⟩ := hc
    obtain ⟨_, hs, j, rfl, hj⟩ := cnt_spec hc
    rw [Int.toNat_natCast] at hk
    refine Eq.trans (b := have c80 := (IntKind.i64.wrap ((↑j : Int) + (1 : Int))); have c81 := ((↑s.length : Int) - IntKind.i64.wrap ((↑j : Int) + (1 : Int))); have c82 := [AV.str s, AV.int IntKind.i64 (ptL s (s.length - c80.toNat) (↑j : Int) c80.toNat).fst, AV.int IntKind.i64 (↑(ptL s (s.length - c80.toNat) (↑j : Int) c80.toNat).snd : Int)]; have c83 := [AV.str s, AV.int IntKind.i64 (ptL s (s.length - c80.toNat) b c80.toNat).fst, AV.int IntKind.i64 (↑(ptL s (s.length - c80.toNat) b c80.toNat).snd : Int)]; bif decide ((↑j : Int) < (↑s.length : Int)) then bif inb (↑j : Int) s.length then bif !isB' (↑(s.getD j (0 : UInt8)).toNat : Int) then bif decide (c81.toNat < ((↑s.length : Int) - (↑j : Int)).toNat) then bif cnt (↑s.length : Int) c80 s.length && decide ((1 : Int) ≤ IntKind.i64.wrap ((↑j : Int) + (1 : Int))) then k (Ex.exit (0 : Nat)) c83 [] else none else none else bif inb (IntKind.i64.wrap ((↑j : Int) - (1 : Int))) s.length then bif isB' (↑(s.getD (IntKind.i64.wrap ((↑j : Int) - (1 : Int))).toNat (0 : UInt8)).toNat : Int) then bif decide (c81.toNat < ((↑s.length : Int) - (↑j : Int)).toNat) then bif cnt (↑s.length : Int) c80 s.length && decide ((1 : Int) ≤ IntKind.i64.wrap ((↑j : Int) + (1 : Int))) then k (Ex.exit (0 : Nat)) c83 [] else none else none else bif decide (b > (0 : Int)) then bif decide ((↑j : Int) > (78 : Int)) then k (Ex.exit (0 : Nat)) [AV.str s, AV.int IntKind.i64 b, AV.int IntKind.i64 (↑j : Int)] [] else bif decide (c81.toNat < ((↑s.length : Int) - (↑j : Int)).toNat) then bif cnt (↑s.length : Int) c80 s.length && decide ((1 : Int) ≤ IntKind.i64.wrap ((↑j : Int) + (1 : Int))) then k (Ex.exit (0 : Nat)) c82 [] else none else none else bif decide (c81.toNat < ((↑s.length : Int) - (↑j : Int)).toNat) then bif cnt (↑s.length : Int) c80 s.length && decide ((1 : Int) ≤ IntKind.i64.wrap ((↑j : Int) + (1 : Int))) then k (Ex.exit (0 : Nat)) c82 [] else none else none else none else none else k (Ex.exit (0 : Nat)) [AV.str s, AV.int IntKind.i64 b, AV.int IntKind.i64 (↑j : Int)] []) (by kernel_rfl) ?_
    conv => zeta
    rw [← hk]
    by_cases hlt : j < s.length
    · obtain ⟨e1, e2, e3, e4, e5⟩ := cnt_facts hlt hs
      have w1 : IntKind.i64.wrap ((j : Int) - 1) = ((j - 1 : Nat) : Int) := by rw [wrap_small _ (by omega) (by omega)]; omega
      have e6 : inb ((j - 1 : Nat) : Int) s.length = true := inb_true (by omega) (by omega)
      have e7 : decide ((1 : Int) ≤ ((j + 1 : Nat) : Int)) = true := decide_eq_true (by omega)
      have hx : ∀ j, ((s.getD j (0 : UInt8)).toNat : Int) = atI s j := fun j => rfl
      rw [show s.length - j = (s.length - (j + 1)) + 1 by omega]
      show _ = k (.exit 0) [.str s, .int .i64 (ptL s (s.length - (j + 1) + 1) b j).1, .int .i64 (ptL s (s.length - (j + 1) + 1) b j).2] []
      rw [ptL_step]
      unfold brk
      simp only [Int.toNat_natCast, hx, w1, e1, e2, e3, e4, e5, e6, e7, cond_true, Bool.and_true]
      cases h2 : isB' (atI s j) <;> cases h3 : isB' (atI s (j - 1)) <;> simp only [Bool.not_true, Bool.not_false, Bool.and_true, Bool.and_false, cond_true, cond_false] <;> try rfl
      cases h4 : decide (b > 0) <;> cases h5 : decide ((j : Int) > 78) <;> rfl
    · obtain rfl : j = s.length := by omega
      rw [decide_eq_false (by omega), Nat.sub_self]
      rfl
  · cases h
def mx1 (i : Int) : Int := if 1 > i then 1 else i
def pt (s : List UInt8) (i : Int) : Int := (ptL s (s.length - (mx1 i).toNat) 0 (mx1 i).toNat).1
def F107 : List AV → Tr AV
  | [.str s, .int .i64 i] => .gd (small s.length && decide (mx1 i ≤ s.length)) (.leaf (.int .i64 (pt s i)))
  | _ => .no
theorem mx1_pos (i : Int) : 1 ≤ mx1 i := by unfold mx1; split <;> omega
theorem ok107 : SumOK Tryz.prog 107 (ofT F107) ∧ SNat (ofT F107) := by
  refine fn1 (K := [(3, l107)]) (b := b107) (l := l107) g107 Tryz.func107 (by kernel_rfl) (by kernel_rfl) loop107 fun ρ avs k r h => ?_
  unfold F107 at h
  split at h
  · rename_i s i
    obtain ⟨hc, hk⟩ := gd_some h
    simp only [Bool.and_eq_true, decide_eq_true_eq] at hc
    have hs : s.length ≤ 9223372036854775807 := of_decide_eq_true hc.1
    have hm := mx1_pos i
    refine Eq.trans (b := bif cnt (↑s.length : Int) (if (1 : Int) > i then (1 : Int) else i) s.length && decide ((1 : Int) ≤ if (1 : Int) > i then (1 : Int) else i) then k (AV.int IntKind.i64 (ptL s (s.length - (if (1 : Int) > i then (1 : Int) else i).toNat) (0 : Int) (if (1 : Int) > i then (1 : Int) else i).toNat).fst) else none) (by kernel_rfl) ?_
    rw [← hk]
    have hcn : (cnt s.length (mx1 i) s.length && decide (1 ≤ mx1 i)) = true := and_t (and_tt (decide_eq_true rfl) (and_tt (decide_eq_true (by omega)) (and_tt (decide_eq_true hc.2) (decide_eq_true hs)))) (decide_eq_true hm)
    exact cond_t hcn
  · cases h
theorem ptL_r (s : List UInt8) : ∀ (n : Nat) (b : Int) (i : Nat), i + n ≤ s.length → 0 ≤ b → b < s.length ∨ b = 0 → 0 ≤ (ptL s n b i).1 ∧ ((ptL s n b i).1 < s.length ∨ (ptL s n b i).1 = 0)
  | 0, b, i, _, h0, h1 => ⟨h0, h1⟩
  | n + 1, b, i, h, h0, h1 => by
    rw [ptL_step]
    cases brk s i
    · exact ptL_r s n b (i + 1) (by omega) h0 h1
    · cases decide (b > 0) && decide ((i : Int) > 78)
      · exact ptL_r s n i (i + 1) (by omega) (by omega) (.inl (by omega))
      · exact ⟨h0, h1⟩
theorem pt_r (s : List UInt8) (i : Int) : 0 ≤ pt s i ∧ (pt s i < s.length ∨ pt s i = 0) := by
  unfold pt
  by_cases h : (mx1 i).toNat ≤ s.length
  · exact ptL_r s _ 0 _ (by omega) (Int.le_refl _) (.inr rfl)
  · rw [show s.length - (mx1 i).toNat = 0 by omega]
    exact ⟨Int.le_refl _, .inr rfl⟩
noncomputable def G69 : Env := { pure := [(105, ofT F105), (106, ofT F106), (107, ofT F107), (13, evF Tryz.prog G0 [] Tryz.f13), (15, evF Tryz.prog G0 [] Tryz.f15)] }
theorem g69 : GOK Tryz.prog G69 := GOK.also (GOK.also (GOK.also (GOK.also (GOK.also g0 (inl g0 Tryz.func15 (by kernel_rfl))) (inl g0 Tryz.func13 (by kernel_rfl))) ok107) ok106) ok105
noncomputable def b69 : Code := ((Tryz.f69.body.map loopsOf).getD []).headD .skip
noncomputable def c69 : Code := (((Tryz.f69.body.map loopsOf).getD []).tail).headD .skip
def fl : Nat → List UInt8 → Int → List (List UInt8) × List UInt8 × Int
  | 0, s, f => ([], s, f)
  | n + 1, s, f => bif decide ((s.length : Int) > 78) then (bif pt s f == 0 then ([], s, f) else (s.take (pt s f).toNat :: (fl n (s.drop (pt s f).toNat) 0).1, (fl n (s.drop (pt s f).toNat) 0).2)) else ([], s, f)
def strs (l : List (List UInt8)) : List AV := l.map AV.str
theorem by9 : Tryz.prog.bytesOf 9 ≤ 1000 := of_decide_eq_true (by kernel_rfl)
def L69 : List AV → List (Option Row) → Tr LOut
  | [.ptr 1 0, .str s, .int .i64 f, .own 900], [some (.box false [.int .i64 0, .int .i64 0]), some (.arr false .str e es none)] =>
    .gd (decide (s.length ≤ 100000 ∧ es.length + s.length ≤ 100000 ∧ f ≤ s.length ∧ e = 9)) (.leaf (.exit 1, [.ptr 1 0, .str (fl s.length s f).2.1, .int .i64 (fl s.length s f).2.2, .own 900], [some (.box false [.int .i64 0, .int .i64 0]), some (.arr false .str e (es ++ strs (fl s.length s f).1) none)]))
  | _, _ => .no
def l69 : Ev.Loop := ⟨{ len := 70, slots := [5, 6, 7, 8], rows := [1, 900], homes := [(8, 900, 9)] }, ofL L69⟩
def μ69 (vs : List AV) (_ : List (Option Row)) : Nat := match vs with
  | [_, .str s, _, _] => s.length
  | _ => 0
theorem fl_step (n : Nat) (s : List UInt8) (f : Int) : fl (n + 1) s f = bif decide ((s.length : Int) > 78) then (bif pt s f == 0 then ([], s, f) else (s.take (pt s f).toNat :: (fl n (s.drop (pt s f).toNat) 0).1, (fl n (s.drop (pt s f).toNat) 0).2)) else ([], s, f) := rfl
theorem fl_fuel : ∀ (n m : Nat) (s : List UInt8) (f : Int), s.length ≤ n → s.length ≤ m → fl n s f = fl m s f
  | 0, m, s, f, hn, _ => by
    have : s = [] := List.eq_nil_of_length_eq_zero (by omega)
    subst this
    cases m <;> rfl
  | n + 1, 0, s, f, _, hm => by
    have : s = [] := List.eq_nil_of_length_eq_zero (by omega)
    subst this
    rfl
  | n + 1, m + 1, s, f, hn, hm => by
    rw [fl_step, fl_step]
    cases h0 : pt s f == 0
    · have hr := pt_r s f
      have hne : pt s f ≠ 0 := by simpa using h0
      rw [fl_fuel n m _ 0 (by rw [List.length_drop]; omega) (by rw [List.length_drop]; omega)]
    · rfl
theorem loop69 : LoopOK Tryz.prog G69 [(9, l69)] b69 l69 := by
  refine loopT g69.natOK rfl (KOK.nil (by kernel_rfl)) μ69 (fun ρ vs rs k r h => ?_)
  unfold L69 at h
  split at h
  · rename_i s f e es
    obtain ⟨hc, hk⟩ := gd_some h
    obtain ⟨c1, c2, c3, rfl⟩ := of_decide_eq_true hc
    refine Eq.trans (b := have c80 := (List.take ((↑s.length : Int).toNat - (pt s f).toNat) (List.drop (pt s f).toNat s)); have c81 := [AV.str (List.take ((pt s f).toNat - Int.toNat (0 : Int)) (List.drop (0 : Nat) s))]; have c82 := (Row.box false [AV.int IntKind.i64 0, AV.int IntKind.i64 0]); bif decide ((↑s.length : Int) > (78 : Int)) then bif small s.length && decide (mx1 f ≤ (↑s.length : Int)) then bif pt s f == (0 : Int) then k (Ex.exit (1 : Nat)) [AV.ptr 1 0, AV.str s, AV.int IntKind.i64 f, AV.own 900] [some c82, some (Row.arr false Sh.str (9 : Nat) es none)] else bif slb (0 : Int) (pt s f) s.length then bif roomB (es.length + c81.length) (Tryz.prog.bytesOf 9) then bif slb (pt s f) (↑s.length : Int) s.length then bif decide (c80.length < s.length) then bif decide (c80.length ≤ (100000 : Nat) ∧ (es ++ c81).length + c80.length ≤ (100000 : Nat) ∧ (0 : Int) ≤ (↑c80.length : Int) ∧ (9 : Nat) = (9 : TypeId)) then k (Ex.exit (1 : Nat)) [AV.ptr 1 0, AV.str (fl c80.length c80 (0 : Int)).snd.fst, AV.int IntKind.i64 (fl c80.length c80 (0 : Int)).snd.snd, AV.own 900] [some c82, some (Row.arr false Sh.str (9 : Nat) (es ++ c81 ++ strs (fl c80.length c80 (0 : Int)).fst) none)] else none else none else none else none else none else none else k (Ex.exit (1 : Nat)) [AV.ptr 1 0, AV.str s, AV.int IntKind.i64 f, AV.own 900] [some c82, some (Row.arr false Sh.str (9 : Nat) es none)]) (by kernel_rfl) ?_
    conv => zeta
    rw [← hk]
    by_cases h78 : (s.length : Int) > 78
    · have hm : mx1 f ≤ s.length := by unfold mx1; split <;> omega
      have hsm : (small s.length && decide (mx1 f ≤ (s.length : Int))) = true := and_t (decide_eq_true (by omega)) (decide_eq_true hm)
      obtain ⟨p0, p1⟩ := pt_r s f
      rw [decide_eq_true h78, hsm, cond_true, cond_true]
      rw [fl_fuel s.length (s.length - 1 + 1) s f (Nat.le_refl _) (by omega), fl_step, decide_eq_true h78, cond_true]
      cases hp : pt s f == 0
      · have hne : pt s f ≠ 0 := by simpa using hp
        rw [cond_false, cond_false]
        generalize hq : (pt s f).toNat = q
        have hpq : pt s f = (q : Int) := by omega
        rw [hpq]
        have t1 : List.take (q - Int.toNat 0) (List.drop 0 s) = s.take q := rfl
        have t2 : List.take ((s.length : Int).toNat - q) (s.drop q) = s.drop q := List.take_of_length_le (by rw [List.length_drop]; omega)
        have hd : (s.drop q).length = s.length - q := List.length_drop
        simp only [t1, t2]
        rw [fl_fuel (s.drop q).length (s.length - 1) _ 0 (Nat.le_refl _) (by omega)]
        have r9 : ∀ x : AV, roomB (es.length + [x].length) (Tryz.prog.bytesOf 9) = true := fun x => roomB_small (by simp; omega) by9
        have hl : ∀ x : AV, (es ++ [x]).length = es.length + 1 := fun x => by rw [List.length_append]; rfl
        refine Eq.trans (cond_t (slb_true (by omega) (by omega) (by omega))) (Eq.trans (cond_t (r9 _)) (Eq.trans (cond_t (slb_true (by omega) (by omega) (by omega))) (Eq.trans (cond_t (decide_eq_true (by omega))) (Eq.trans (cond_t (decide_eq_true ⟨by omega, by rw [hl]; omega, by omega, trivial⟩)) ?_))))
        rw [List.append_assoc]
        rfl
      · show k _ _ _ = k _ _ [_, some (.arr false .str 9 (es ++ []) none)]
        rw [List.append_nil]
        rfl
    · rw [decide_eq_false h78]
      have : fl s.length s f = ([], s, f) := by
        cases hl : s.length with
        | zero => rfl
        | succ m => rw [fl_step, decide_eq_false h78]; rfl
      rw [this]
      show k _ _ _ = k _ _ [_, some (.arr false .str 9 (es ++ []) none)]
      rw [List.append_nil]
  · cases h
def sE (e : AV) : List UInt8 := (e.cells.headD .unk).toStr
def isS (e : AV) : Bool := match e with | .str _ => true | _ => false
theorem strs_all (l : List (List UInt8)) : (strs l).all isS = true := List.all_eq_true.2 fun x hx => by
  obtain ⟨b, _, rfl⟩ := List.mem_map.1 hx; rfl
def longE (es : List AV) (i : Nat) : Bool := decide (((sE (es.getD i .unk)).length : Int) > 998)
def L69c : List AV → List (Option Row) → Tr LOut
  | [.unk, .ptr 1 0, .own 899, .own 899, .int .i64 n, .int .i64 i], [some (.box false [.int .i64 0, .int .i64 0]), some (.arr false .str e es none)] =>
    .gd (cnt n i es.length && es.all isS) (sT (longE es) es.length (fun q => .leaf (.ret, [.slz .str, .ptr 1 0, .own 899, .own 899, .int .i64 n, .int .i64 (q : Nat)], [some (.box false [.int .i64 1, .int .i64 (q : Nat)]), some (.arr false .str e es none)])) (.leaf (.exit 3, [.unk, .ptr 1 0, .own 899, .own 899, .int .i64 n, .int .i64 es.length], [some (.box false [.int .i64 0, .int .i64 0]), some (.arr false .str e es none)])) i.toNat)
  | _, _ => .no
def l69c : Ev.Loop := ⟨{ len := 70, slots := [4, 5, 8, 55, 56, 57], rows := [1, 899] }, ofL L69c⟩
def μ69c (vs : List AV) (_ : List (Option Row)) : Nat := match vs with
  | [_, _, _, _, .int _ n, .int _ i] => (n - i).toNat
  | _ => 0
theorem loop69c : LoopOK Tryz.prog G69 [(16, l69c)] c69 l69c := by
  refine loopT g69.natOK rfl (KOK.nil (by kernel_rfl)) μ69c (fun ρ vs rs k r h => ?_)
  unfold L69c at h
  split at h
  · rename_i n i e es
    obtain ⟨hc, hk⟩ := gd_some h
    simp only [Bool.and_eq_true] at hc
    obtain ⟨hc, hall⟩ := hc
    obtain ⟨rfl, hs, j, rfl, hj⟩ := cnt_spec hc
    rw [Int.toNat_natCast] at hk
    refine Eq.trans (b := bif decide ((↑j : Int) < (↑es.length : Int)) then bif inb (↑j : Int) es.length then bif decide (j < es.length) then bif decide ((↑(sE (es.getD j AV.unk)).length : Int) > (998 : Int)) then k Ex.ret [AV.slz Sh.str, AV.ptr 1 0, AV.own 899, AV.own 899, AV.int IntKind.i64 (↑es.length : Int), AV.int IntKind.i64 (↑j : Int)] [some (Row.box false [AV.int IntKind.i64 1, AV.int IntKind.i64 (↑j : Int)]), some (Row.arr false Sh.str e es none)] else bif decide (((↑es.length : Int) - IntKind.i64.wrap ((↑j : Int) + (1 : Int))).toNat < ((↑es.length : Int) - (↑j : Int)).toNat) then bif cnt (↑es.length : Int) (IntKind.i64.wrap ((↑j : Int) + (1 : Int))) es.length && es.all isS then bif (findN (longE es) es.length (IntKind.i64.wrap ((↑j : Int) + (1 : Int))).toNat).isSome then k Ex.ret [AV.slz Sh.str, AV.ptr 1 0, AV.own 899, AV.own 899, AV.int IntKind.i64 (↑es.length : Int), AV.int IntKind.i64 (↑((findN (longE es) es.length (IntKind.i64.wrap ((↑j : Int) + (1 : Int))).toNat).getD (0 : Nat)) : Int)] [some (Row.box false [AV.int IntKind.i64 1, AV.int IntKind.i64 (↑((findN (longE es) es.length (IntKind.i64.wrap ((↑j : Int) + (1 : Int))).toNat).getD (0 : Nat)) : Int)]), some (Row.arr false Sh.str e es none)] else k (Ex.exit (3 : Nat)) [AV.unk, AV.ptr 1 0, AV.own 899, AV.own 899, AV.int IntKind.i64 (↑es.length : Int), AV.int IntKind.i64 (↑es.length : Int)] [some (Row.box false [AV.int IntKind.i64 0, AV.int IntKind.i64 0]), some (Row.arr false Sh.str e es none)] else none else none else none else none else k (Ex.exit (3 : Nat)) [AV.unk, AV.ptr 1 0, AV.own 899, AV.own 899, AV.int IntKind.i64 (↑es.length : Int), AV.int IntKind.i64 (↑j : Int)] [some (Row.box false [AV.int IntKind.i64 0, AV.int IntKind.i64 0]), some (Row.arr false Sh.str e es none)]) (by kernel_rfl) ?_
    rw [← hk]
    by_cases hlt : j < es.length
    · obtain ⟨e1, e2, e3, e4, e5⟩ := cnt_facts hlt hs
      rw [sT_step _ _ _ _ _ hlt]
      have hw : longE es j = decide (((sE (es.getD j .unk)).length : Int) > 998) := rfl
      have e6 : decide (j < es.length) = true := decide_eq_true hlt
      rw [hw]
      simp only [e1, e2, e3, e4, e5, e6, hall, Bool.and_true, cond_true, Int.toNat_natCast]
      rfl
    · obtain rfl : j = es.length := by omega
      rw [decide_eq_false (by omega), sT_end]
      rfl
  · cases h
def flL (n v : List UInt8) : List (List UInt8) := (fl (n ++ [58, 32] ++ v).length (n ++ [58, 32] ++ v) ((n.length : Int) + 2)).1 ++ [(fl (n ++ [58, 32] ++ v).length (n ++ [58, 32] ++ v) ((n.length : Int) + 2)).2.1]
def longL (l : List (List UInt8)) (i : Nat) : Bool := decide (((l.getD i []).length : Int) > 998)
def fdL (n v : List UInt8) : List (List UInt8) := bif !fnB n then [] else bif decide ((v.length : Int) > 4000) then [] else bif !vlB v then [] else bif (findN (longL (flL n v)) (flL n v).length 0).isSome then [] else flL n v
def fdC (n v : List UInt8) : Int := bif !fnB n then 10 else bif decide ((v.length : Int) > 4000) then 1 else bif !vlB v then 11 else bif (findN (longL (flL n v)) (flL n v).length 0).isSome then 1 else 0
def fdI (n v : List UInt8) : Int := bif !fnB n then -1 else bif decide ((v.length : Int) > 4000) then -1 else bif !vlB v then -1 else bif (findN (longL (flL n v)) (flL n v).length 0).isSome then (((findN (longL (flL n v)) (flL n v).length 0).getD 0 : Nat) : Int) else 0
theorem strs_getD (l : List (List UInt8)) (i : Nat) : sE ((strs l).getD i .unk) = l.getD i [] := by
  unfold strs
  rw [List.getD_eq_getElem?_getD, List.getElem?_map, List.getD_eq_getElem?_getD]
  cases l[i]? <;> rfl
theorem longE_strs (l : List (List UInt8)) : longE (strs l) = longL l := by
  funext i
  unfold longE longL
  rw [strs_getD]
def F69 : List AV → Tr AV
  | [.str n, .str v] => .gd (small n.length && small v.length) (.leaf (.tup [.slv .str (strs (fdL n v)), .agg [.int .i64 (fdC n v), .int .i64 (fdI n v)]]))
  | _ => .no
theorem fl_le : ∀ (n : Nat) (s : List UInt8) (f : Int), (fl n s f).1.length + (fl n s f).2.1.length ≤ s.length
  | 0, s, f => by simp [fl]
  | n + 1, s, f => by
    rw [fl_step]
    cases h78 : decide ((s.length : Int) > 78)
    · simp
    · cases hp : pt s f == 0
      · have hne : pt s f ≠ 0 := by simpa using hp
        obtain ⟨p0, p1⟩ := pt_r s f
        have ih := fl_le n (s.drop (pt s f).toNat) 0
        rw [List.length_drop] at ih
        simp only [cond_true, cond_false, List.length_cons]
        omega
      · simp
theorem ok69 : SumOK Tryz.prog 69 (ofT F69) ∧ SNat (ofT F69) := by
  refine fnT (K := [(9, l69), (16, l69c)]) g69 Tryz.func69 (bs := [b69, c69]) (by kernel_rfl) (fun b hb => ?_) fun ρ avs k r h => ?_
  · simp at hb
    rcases hb with rfl | rfl
    · exact ⟨l69, by kernel_rfl, loop69⟩
    · exact ⟨l69c, by kernel_rfl, loop69c⟩
  unfold F69 at h
  split at h
  · rename_i n v
    obtain ⟨hc, hk⟩ := gd_some h
    simp only [Bool.and_eq_true] at hc
    have hn : n.length ≤ 9223372036854775807 := of_decide_eq_true hc.1
    have hv : v.length ≤ 9223372036854775807 := of_decide_eq_true hc.2
    refine Eq.trans (b := have c82 := ([58, 32] : List UInt8); have c80 := (fl (n ++ c82 ++ v).length (n ++ c82 ++ v) (IntKind.i64.wrap ((↑n.length : Int) + (2 : Int)))); have c81 := ([] ++ strs c80.fst ++ [AV.str c80.snd.fst]); bif small n.length then bif !fnB n then k (AV.tup [AV.slv Sh.str [], AV.agg [AV.int IntKind.i64 10, AV.int IntKind.i64 (-1 : Int)]]) else bif decide ((↑v.length : Int) > (4000 : Int)) then k (AV.tup [AV.slv Sh.str [], AV.agg [AV.int IntKind.i64 1, AV.int IntKind.i64 (-1 : Int)]]) else bif decide (v.length < (4294967281 : Nat)) then bif !vlB v then k (AV.tup [AV.slv Sh.str [], AV.agg [AV.int IntKind.i64 11, AV.int IntKind.i64 (-1 : Int)]]) else bif lenB (n.length + c82.length) then bif lenB ((n ++ c82).length + v.length) then bif decide ((n ++ c82 ++ v).length ≤ (100000 : Nat) ∧ ([] : List AV).length + (n ++ c82 ++ v).length ≤ (100000 : Nat) ∧ IntKind.i64.wrap ((↑n.length : Int) + (2 : Int)) ≤ (↑(n ++ c82 ++ v).length : Int) ∧ ((8 : Nat), (900 : Nat), (9 : TypeId)).snd.snd = (9 : TypeId)) then bif roomB (([] ++ strs c80.fst).length + [AV.str c80.snd.fst].length) (Tryz.prog.bytesOf 9) then bif cnt (↑c81.length : Int) (0 : Int) c81.length && c81.all isS then bif (findN (longE c81) c81.length (0 : Nat)).isSome then k (AV.tup [AV.slv Sh.str [], AV.agg [AV.int IntKind.i64 1, AV.int IntKind.i64 (↑((findN (longE c81) c81.length (0 : Nat)).getD (0 : Nat)) : Int)]]) else k (AV.tup [AV.slv Sh.str c81, AV.agg [AV.int IntKind.i64 0, AV.int IntKind.i64 0]]) else none else none else none else none else none else none else none) (by kernel_rfl) ?_
    conv => zeta
    rw [← hk]
    unfold fdL fdC fdI
    rw [hc.1, cond_true]
    cases h1 : fnB n
    · rfl
    · cases h4 : decide ((v.length : Int) > 4000)
      · have hv4 : v.length ≤ 4000 := by have := of_decide_eq_false h4; omega
        have hn60 : n.length ≤ 60 := by
          unfold fnB at h1
          simp only [Bool.and_eq_true, decide_eq_true_eq] at h1
          omega
        rw [decide_eq_true (show v.length < 4294967281 by omega)]
        cases h5 : vlB v
        · rfl
        · have w : IntKind.i64.wrap ((n.length : Int) + 2) = (n.length : Int) + 2 := wrap_small _ (by omega) (by omega)
          have hl : (n ++ [58, 32] ++ v).length = n.length + 2 + v.length := by simp only [List.length_append]; rfl
          have hl2 : (n ++ [(58 : UInt8), 32]).length = n.length + 2 := by simp only [List.length_append]; rfl
          have hst : [] ++ strs (fl (n ++ [58, 32] ++ v).length (n ++ [58, 32] ++ v) ((n.length : Int) + 2)).1 ++ [AV.str (fl (n ++ [58, 32] ++ v).length (n ++ [58, 32] ++ v) ((n.length : Int) + 2)).2.1] = strs (flL n v) := by
            unfold flL strs
            rw [List.map_append]
            rfl
          have hsl : (strs (flL n v)).length = (flL n v).length := List.length_map _
          have hsl2 : (strs (fl (n ++ [58, 32] ++ v).length (n ++ [58, 32] ++ v) ((n.length : Int) + 2)).1).length = (fl (n ++ [58, 32] ++ v).length (n ++ [58, 32] ++ v) ((n.length : Int) + 2)).1.length := List.length_map _
          have hle := fl_le (n ++ [58, 32] ++ v).length (n ++ [58, 32] ++ v) ((n.length : Int) + 2)
          have hfl : (flL n v).length = (fl (n ++ [58, 32] ++ v).length (n ++ [58, 32] ++ v) ((n.length : Int) + 2)).1.length + 1 := by unfold flL; rw [List.length_append]; rfl
          rw [w, hst, longE_strs, hsl, strs_all]
          have r9 : ∀ x : AV, roomB (([] ++ strs (fl (n ++ [58, 32] ++ v).length (n ++ [58, 32] ++ v) ((n.length : Int) + 2)).1).length + [x].length) (Tryz.prog.bytesOf 9) = true := fun x => roomB_small (by
            have e := hsl2
            rw [List.nil_append, List.length_singleton]
            omega) by9
          refine Eq.trans (cond_f rfl) (Eq.trans (cond_f rfl) (Eq.trans (cond_t rfl) (Eq.trans (cond_f rfl) (Eq.trans (cond_t (decide_eq_true (by show n.length + 2 ≤ _; omega))) (Eq.trans (cond_t (decide_eq_true (by rw [hl2]; omega))) (Eq.trans (cond_t (decide_eq_true ⟨by omega, by show 0 + _ ≤ _; omega, by omega, rfl⟩)) (Eq.trans (cond_t (r9 _)) (Eq.trans (cond_t (and_t (cnt_zero (decide_eq_true (by omega))) rfl)) ?_))))))))
          cases (findN (longL (flL n v)) (flL n v).length 0).isSome <;> rfl
      · rfl
  · cases h
end Go.Proofs.YtpmlhkoianekfaaGreatDoor


namespace Go.Proofs.YtpmlhkoianekfaaGreatDoor
open Go.Ev
def fN (e : AV) : List UInt8 := (e.cells.headD .unk).toStr
def fV (e : AV) : List UInt8 := (e.cells.tail.headD .unk).toStr
def okF (e : AV) : Bool := small (fN e).length && small (fV e).length
noncomputable def GF : Env := { pure := [(69, ofT F69), (19, evF Tryz.prog G0 [] Tryz.f19), (13, evF Tryz.prog G0 [] Tryz.f13), (15, evF Tryz.prog G0 [] Tryz.f15)] }
theorem gF : GOK Tryz.prog GF := GOK.also (GOK.also (GOK.also (GOK.also g0 (inl g0 Tryz.func15 (by kernel_rfl))) (inl g0 Tryz.func13 (by kernel_rfl))) (inl g0 Tryz.func19 (by kernel_rfl))) ok69
noncomputable def b43 : Code := ((Tryz.f43.body.map loopsOf).getD []).headD .skip
def badF (es : List AV) (i : Nat) : Bool := !(fdC (fN (es.getD i .unk)) (fV (es.getD i .unk)) == 0)
def L43 : List AV → List (Option Row) → Tr LOut
  | [.ptr 0 0, .slv (.agg [.str, .str]) es, .int .i64 n, .int .i64 i], [some (.box false [.int .i64 0, .int .i64 0])] =>
    .gd (cnt n i es.length && es.all okF) (sT (badF es) es.length (fun q => .leaf (.ret, [.ptr 0 0, .slv (.agg [.str, .str]) es, .int .i64 n, .int .i64 (q : Nat)], [some (.box false [.int .i64 (fdC (fN (es.getD q .unk)) (fV (es.getD q .unk))), .int .i64 (q : Nat)])])) (.leaf (.exit 0, [.ptr 0 0, .slv (.agg [.str, .str]) es, .int .i64 n, .int .i64 es.length], [some (.box false [.int .i64 0, .int .i64 0])])) i.toNat)
  | _, _ => .no
def l43 : Ev.Loop := ⟨{ len := 34, slots := [2, 11, 12, 13], rows := [0] }, ofL L43⟩
def μ43 (vs : List AV) (_ : List (Option Row)) : Nat := match vs with
  | [_, _, .int _ n, .int _ i] => (n - i).toNat
  | _ => 0
theorem loop43 : LoopOK Tryz.prog GF [(4, l43)] b43 l43 := by
  refine loopT gF.natOK rfl (KOK.nil (by kernel_rfl)) μ43 (fun ρ vs rs k r h => ?_)
  unfold L43 at h
  split at h
  · rename_i es n i
    obtain ⟨hc, hk⟩ := gd_some h
    simp only [Bool.and_eq_true] at hc
    obtain ⟨hc, hall⟩ := hc
    obtain ⟨rfl, hs, j, rfl, hj⟩ := cnt_spec hc
    rw [Int.toNat_natCast] at hk
    refine Eq.trans (b := have c80 := (findN (badF es) es.length (IntKind.i64.wrap ((↑j : Int) + (1 : Int))).toNat); bif decide ((↑j : Int) < (↑es.length : Int)) then bif inb (↑j : Int) es.length then bif small (fN (es.getD j AV.unk)).length && small (fV (es.getD j AV.unk)).length then bif fdC (fN (es.getD j AV.unk)) (fV (es.getD j AV.unk)) != (0 : Int) then k Ex.ret [AV.ptr 0 0, AV.slv (Sh.agg [Sh.str, Sh.str]) es, AV.int IntKind.i64 (↑es.length : Int), AV.int IntKind.i64 (↑j : Int)] [some (Row.box false [AV.int IntKind.i64 (fdC (fN (es.getD j AV.unk)) (fV (es.getD j AV.unk))), AV.int IntKind.i64 (↑j : Int)])] else bif decide (((↑es.length : Int) - IntKind.i64.wrap ((↑j : Int) + (1 : Int))).toNat < ((↑es.length : Int) - (↑j : Int)).toNat) then bif cnt (↑es.length : Int) (IntKind.i64.wrap ((↑j : Int) + (1 : Int))) es.length && es.all okF then bif c80.isSome then k Ex.ret [AV.ptr 0 0, AV.slv (Sh.agg [Sh.str, Sh.str]) es, AV.int IntKind.i64 (↑es.length : Int), AV.int IntKind.i64 (↑(c80.getD (0 : Nat)) : Int)] [some (Row.box false [AV.int IntKind.i64 (fdC (fN (es.getD (c80.getD (0 : Nat)) AV.unk)) (fV (es.getD (c80.getD (0 : Nat)) AV.unk))), AV.int IntKind.i64 (↑(c80.getD (0 : Nat)) : Int)])] else k (Ex.exit (0 : Nat)) [AV.ptr 0 0, AV.slv (Sh.agg [Sh.str, Sh.str]) es, AV.int IntKind.i64 (↑es.length : Int), AV.int IntKind.i64 (↑es.length : Int)] [some (Row.box false [AV.int IntKind.i64 0, AV.int IntKind.i64 0])] else none else none else none else none else k (Ex.exit (0 : Nat)) [AV.ptr 0 0, AV.slv (Sh.agg [Sh.str, Sh.str]) es, AV.int IntKind.i64 (↑es.length : Int), AV.int IntKind.i64 (↑j : Int)] [some (Row.box false [AV.int IntKind.i64 0, AV.int IntKind.i64 0])]) (by kernel_rfl) ?_
    conv => zeta
    rw [← hk]
    by_cases hlt : j < es.length
    · obtain ⟨e1, e2, e3, e4, e5⟩ := cnt_facts hlt hs
      rw [sT_step _ _ _ _ _ hlt]
      have hok : okF (es.getD j .unk) = true := List.all_eq_true.1 hall _ (by rw [getD_eq hlt]; exact List.getElem_mem hlt)
      have hok' : (small (fN (es.getD j .unk)).length && small (fV (es.getD j .unk)).length) = true := hok
      have hw : badF es j = (fdC (fN (es.getD j .unk)) (fV (es.getD j .unk)) != 0) := rfl
      rw [hw]
      simp only [e1, e2, e3, e4, e5, hok', hall, Bool.and_true, cond_true, Int.toNat_natCast]
      rfl
    · obtain rfl : j = es.length := by omega
      rw [decide_eq_false (by omega), sT_end]
      rfl
  · cases h
def fsh : Sh := .agg [.str, .str]
def hvC (es : List AV) : Int := bif decide ((es.length : Int) > 60) then 2 else bif (findN (badF es) es.length 0).isSome then fdC (fN (es.getD ((findN (badF es) es.length 0).getD 0) .unk)) (fV (es.getD ((findN (badF es) es.length 0).getD 0) .unk)) else 0
def hvI (es : List AV) : Int := bif decide ((es.length : Int) > 60) then -1 else bif (findN (badF es) es.length 0).isSome then ((findN (badF es) es.length 0).getD 0 : Nat) else 0
def F43 : List AV → Tr AV
  | [.slv (.agg [.str, .str]) es] => .gd (small es.length && es.all okF) (.leaf (.agg [.int .i64 (hvC es), .int .i64 (hvI es)]))
  | _ => .no
theorem ok43 : SumOK Tryz.prog 43 (ofT F43) ∧ SNat (ofT F43) := by
  refine fn1 (K := [(4, l43)]) (b := b43) (l := l43) gF Tryz.func43 (by kernel_rfl) (by kernel_rfl) loop43 fun ρ avs k r h => ?_
  unfold F43 at h
  split at h
  · rename_i es
    obtain ⟨hc, hk⟩ := gd_some h
    simp only [Bool.and_eq_true] at hc
    obtain ⟨hc, hall⟩ := hc
    refine Eq.trans (b := have c80 := (findN (badF es) es.length (0 : Nat)); bif decide ((↑es.length : Int) > (60 : Int)) then k (AV.agg [AV.int IntKind.i64 2, AV.int IntKind.i64 (-1 : Int)]) else bif cnt (↑es.length : Int) (0 : Int) es.length && es.all okF then bif c80.isSome then k (AV.agg [AV.int IntKind.i64 (fdC (fN (es.getD (c80.getD (0 : Nat)) AV.unk)) (fV (es.getD (c80.getD (0 : Nat)) AV.unk))), AV.int IntKind.i64 (↑(c80.getD (0 : Nat)) : Int)]) else k (AV.agg [AV.int IntKind.i64 0, AV.int IntKind.i64 0]) else none) (by kernel_rfl) ?_
    conv => zeta
    rw [← hk, cnt_zero hc, hall]
    unfold hvC hvI
    cases decide ((es.length : Int) > 60) <;> cases (findN (badF es) es.length 0).isSome <;> rfl
  · cases h
noncomputable def b36 : Code := ((Tryz.f36.body.map loopsOf).getD []).headD .skip
noncomputable def c36 : Code := (((Tryz.f36.body.map loopsOf).getD []).tail).headD .skip
def wrL (l : List AV) : List AV := l.flatMap fun e => bytesAV (sE e) ++ [.int .u8 13, .int .u8 10]
def wrF (es : List AV) : List AV := es.flatMap fun e => wrL (strs (fdL (fN e) (fV e)))
theorem by5 : Tryz.prog.bytesOf 5 = 1 := by kernel_rfl
theorem room5 {n : Nat} (h : n ≤ 150000000000000) : roomB n (Tryz.prog.bytesOf 5) = true := by
  rw [by5]
  unfold roomB
  rw [decide_eq_true (rfl : (1 : Nat) = 1), decide_eq_true h, decide_eq_true (show n ≤ 4611686018427387904 by omega)]
  cases decide (n * 1 ≤ 140737488355328) <;> rfl
def two : List AV := [.int .u8 13, .int .u8 10]
def L36 : List AV → List (Option Row) → Tr LOut
  | [.ptr 0 0, .slz (.int .u8), .own 900, .slv (.agg [.str, .str]) es, .int .i64 n, .int .i64 i], [some (.box false [.slv (.agg [.str, .str]) es', .slv (.int .u8) bs]), some (.arr false (.int .u8) e out none)] =>
    .gd (cnt n i es.length && (es.all okF && decide (out.length + (wrF (es.drop i.toNat)).length ≤ 100000000000 ∧ e = 5))) (.leaf (.exit 0, [.ptr 0 0, .slz (.int .u8), .own 900, .slv (.agg [.str, .str]) es, .int .i64 n, .int .i64 es.length], [some (.box false [.slv (.agg [.str, .str]) es', .slv (.int .u8) bs]), some (.arr false (.int .u8) e (out ++ wrF (es.drop i.toNat)) none)]))
  | _, _ => .no
def l36 : Ev.Loop := ⟨{ len := 44, slots := [1, 2, 3, 11, 12, 13], rows := [0, 900], homes := [(3, 900, 5)] }, ofL L36⟩
def μ36 (vs : List AV) (_ : List (Option Row)) : Nat := match vs with
  | [_, _, _, _, .int _ n, .int _ i] => (n - i).toNat
  | _ => 0
def L36b : List AV → List (Option Row) → Tr LOut
  | [.ptr 0 0, .slz (.int .u8), .own 901, .slv (.agg [.str, .str]) es, .int .i64 n, .int .i64 i, .slv .str ls, .int .i64 m, .int .i64 q], [some (.box false [.slv (.agg [.str, .str]) es', .slv (.int .u8) bs]), some (.arr false (.int .u8) e out none)] =>
    .gd (cnt m q ls.length && (ls.all isS && decide (out.length + (wrL (ls.drop q.toNat)).length ≤ 100000000000 ∧ e = 5))) (.leaf (.exit 2, [.ptr 0 0, .slz (.int .u8), .own 901, .slv (.agg [.str, .str]) es, .int .i64 n, .int .i64 i, .slv .str ls, .int .i64 m, .int .i64 ls.length], [some (.box false [.slv (.agg [.str, .str]) es', .slv (.int .u8) bs]), some (.arr false (.int .u8) e (out ++ wrL (ls.drop q.toNat)) none)]))
  | _, _ => .no
def l36b : Ev.Loop := ⟨{ len := 44, slots := [1, 2, 3, 11, 12, 13, 25, 26, 27], rows := [0, 901], homes := [(3, 901, 5)] }, ofL L36b⟩
def μ36b (vs : List AV) (_ : List (Option Row)) : Nat := match vs with
  | [_, _, _, _, _, _, _, .int _ n, .int _ i] => (n - i).toNat
  | _ => 0
theorem wrL_step {ls : List AV} {j : Nat} (h : j < ls.length) : wrL (ls.drop j) = bytesAV (sE (ls.getD j .unk)) ++ two ++ wrL (ls.drop (j + 1)) := by
  rw [drop_getD h]
  unfold wrL two
  rw [List.flatMap_cons]
theorem wrL_len : ∀ ls : List AV, ls.length ≤ (wrL ls).length
  | [] => Nat.le_refl _
  | e :: ls => by
    have := wrL_len ls
    unfold wrL at this ⊢
    rw [List.flatMap_cons, List.length_append, List.length_append, List.length_cons]
    show _ ≤ _ + 2 + _
    omega
theorem loop36b : LoopOK Tryz.prog GF [(3, l36), (7, l36b)] c36 l36b := by
  refine loopT gF.natOK rfl (KOK.nil (by kernel_rfl)) μ36b (fun ρ vs rs k r h => ?_)
  unfold L36b at h
  split at h
  · rename_i es n i ls m q es' bs e out
    obtain ⟨hc, hk⟩ := gd_some h
    simp only [Bool.and_eq_true] at hc
    obtain ⟨hc, hall, hb0⟩ := hc
    obtain ⟨hb, rfl⟩ := of_decide_eq_true hb0
    clear hb0
    obtain ⟨rfl, hs, j, rfl, hj⟩ := cnt_spec hc
    rw [Int.toNat_natCast] at hk hb
    refine Eq.trans (b := have c80 := [AV.int IntKind.u8 13, AV.int IntKind.u8 10]; have c81 := (IntKind.i64.wrap ((↑j : Int) + (1 : Int))); have c82 := (Row.box false [AV.slv (Sh.agg [Sh.str, Sh.str]) es', AV.slv (Sh.int IntKind.u8) bs]); bif decide ((↑j : Int) < (↑ls.length : Int)) then bif inb (↑j : Int) ls.length then bif roomB (out.length + (bytesAV (sE (ls.getD j AV.unk))).length) (Tryz.prog.bytesOf 5) then bif roomB ((out ++ bytesAV (sE (ls.getD j AV.unk))).length + c80.length) (Tryz.prog.bytesOf 5) then bif decide (((↑ls.length : Int) - IntKind.i64.wrap ((↑j : Int) + (1 : Int))).toNat < ((↑ls.length : Int) - (↑j : Int)).toNat) then bif cnt (↑ls.length : Int) c81 ls.length && (ls.all isS && decide ((out ++ bytesAV (sE (ls.getD j AV.unk)) ++ c80).length + (wrL (List.drop c81.toNat ls)).length ≤ (100000000000 : Nat) ∧ (5 : Nat) = (5 : TypeId))) then k (Ex.exit (2 : Nat)) [AV.ptr 0 0, AV.slz (Sh.int IntKind.u8), AV.own 901, AV.slv (Sh.agg [Sh.str, Sh.str]) es, AV.int IntKind.i64 n, AV.int IntKind.i64 i, AV.slv Sh.str ls, AV.int IntKind.i64 (↑ls.length : Int), AV.int IntKind.i64 (↑ls.length : Int)] [some c82, some (Row.arr false (Sh.int IntKind.u8) (5 : Nat) (out ++ bytesAV (sE (ls.getD j AV.unk)) ++ c80 ++ wrL (List.drop c81.toNat ls)) none)] else none else none else none else none else none else k (Ex.exit (2 : Nat)) [AV.ptr 0 0, AV.slz (Sh.int IntKind.u8), AV.own 901, AV.slv (Sh.agg [Sh.str, Sh.str]) es, AV.int IntKind.i64 n, AV.int IntKind.i64 i, AV.slv Sh.str ls, AV.int IntKind.i64 (↑ls.length : Int), AV.int IntKind.i64 (↑j : Int)] [some c82, some (Row.arr false (Sh.int IntKind.u8) (5 : Nat) out none)]) (by kernel_rfl) ?_
    conv => zeta
    rw [← hk]
    by_cases hlt : j < ls.length
    · obtain ⟨e1, e2, e3, e4, e5⟩ := cnt_facts hlt hs
      rw [wrL_step hlt] at hb ⊢
      simp only [List.length_append] at hb
      have h2 : two.length = 2 := rfl
      have hn : (out ++ bytesAV (sE (ls.getD j .unk)) ++ two).length = out.length + (bytesAV (sE (ls.getD j .unk))).length + 2 := by rw [List.length_append, List.length_append, h2]
      simp only [e1, e2, e3, e4, e5, hall, Bool.true_and, cond_true, Int.toNat_natCast]
      refine Eq.trans (cond_t (room5 (by omega))) (Eq.trans (cond_t (room5 (by rw [List.length_append]; show _ + 2 ≤ _; omega))) (Eq.trans (cond_t (decide_eq_true ⟨by show (out ++ bytesAV (sE (ls.getD j .unk)) ++ two).length + _ ≤ _; omega, trivial⟩)) ?_))
      show k _ _ [_, some (.arr false (.int .u8) 5 (out ++ bytesAV (sE (ls.getD j .unk)) ++ two ++ wrL (ls.drop (j + 1))) none)] = k _ _ [_, some (.arr false (.int .u8) 5 (out ++ (bytesAV (sE (ls.getD j .unk)) ++ two ++ wrL (ls.drop (j + 1)))) none)]
      simp only [List.append_assoc]
    · obtain rfl : j = ls.length := by omega
      rw [decide_eq_false (by omega), List.drop_length]
      show k _ _ _ = k _ _ [_, some (.arr false (.int .u8) 5 (out ++ []) none)]
      rw [List.append_nil]
  · cases h
theorem wrF_step {es : List AV} {j : Nat} (h : j < es.length) : wrF (es.drop j) = wrL (strs (fdL (fN (es.getD j .unk)) (fV (es.getD j .unk)))) ++ wrF (es.drop (j + 1)) := by
  rw [drop_getD h]
  unfold wrF
  rw [List.flatMap_cons]
theorem loop36 : LoopOK Tryz.prog GF [(3, l36), (7, l36b)] b36 l36 := by
  refine loopT gF.natOK rfl (KOK.one (by kernel_rfl) (by kernel_rfl) loop36b) μ36 (fun ρ vs rs k r h => ?_)
  unfold L36 at h
  split at h
  · rename_i es n i es' bs e out
    obtain ⟨hc, hk⟩ := gd_some h
    simp only [Bool.and_eq_true] at hc
    obtain ⟨hc, hall, hb0⟩ := hc
    obtain ⟨hb, rfl⟩ := of_decide_eq_true hb0
    clear hb0
    obtain ⟨rfl, hs, j, rfl, hj⟩ := cnt_spec hc
    rw [Int.toNat_natCast] at hk hb
    refine Eq.trans (b := have c80 := (strs (fdL (fN (es.getD j AV.unk)) (fV (es.getD j AV.unk)))); bif decide ((↑j : Int) < (↑es.length : Int)) then bif inb (↑j : Int) es.length then bif small (fN (es.getD j AV.unk)).length && small (fV (es.getD j AV.unk)).length then bif cnt (↑c80.length : Int) (0 : Int) c80.length && (c80.all isS && decide (out.length + (wrL (List.drop (0 : Nat) c80)).length ≤ (100000000000 : Nat) ∧ (5 : TypeId) = (5 : TypeId))) then bif decide (((↑es.length : Int) - IntKind.i64.wrap ((↑j : Int) + (1 : Int))).toNat < ((↑es.length : Int) - (↑j : Int)).toNat) then bif cnt (↑es.length : Int) (IntKind.i64.wrap ((↑j : Int) + (1 : Int))) es.length && (es.all okF && decide ((out ++ wrL (List.drop (0 : Nat) c80)).length + (wrF (List.drop (IntKind.i64.wrap ((↑j : Int) + (1 : Int))).toNat es)).length ≤ (100000000000 : Nat) ∧ (5 : TypeId) = (5 : TypeId))) then k (Ex.exit (0 : Nat)) [AV.ptr 0 0, AV.slz (Sh.int IntKind.u8), AV.own 900, AV.slv (Sh.agg [Sh.str, Sh.str]) es, AV.int IntKind.i64 (↑es.length : Int), AV.int IntKind.i64 (↑es.length : Int)] [some (Row.box false [AV.slv (Sh.agg [Sh.str, Sh.str]) es', AV.slv (Sh.int IntKind.u8) bs]), some (Row.arr false (Sh.int IntKind.u8) (5 : Nat) (out ++ wrL (List.drop (0 : Nat) c80) ++ wrF (List.drop (IntKind.i64.wrap ((↑j : Int) + (1 : Int))).toNat es)) none)] else none else none else none else none else none else k (Ex.exit (0 : Nat)) [AV.ptr 0 0, AV.slz (Sh.int IntKind.u8), AV.own 900, AV.slv (Sh.agg [Sh.str, Sh.str]) es, AV.int IntKind.i64 (↑es.length : Int), AV.int IntKind.i64 (↑j : Int)] [some (Row.box false [AV.slv (Sh.agg [Sh.str, Sh.str]) es', AV.slv (Sh.int IntKind.u8) bs]), some (Row.arr false (Sh.int IntKind.u8) (5 : Nat) out none)]) (by kernel_rfl) ?_
    conv => zeta
    rw [← hk]
    by_cases hlt : j < es.length
    · obtain ⟨e1, e2, e3, e4, e5⟩ := cnt_facts hlt hs
      have hok : okF (es.getD j .unk) = true := List.all_eq_true.1 hall _ (by rw [getD_eq hlt]; exact List.getElem_mem hlt)
      have hok' : (small (fN (es.getD j .unk)).length && small (fV (es.getD j .unk)).length) = true := hok
      rw [wrF_step hlt] at hb ⊢
      generalize fdL (fN (es.getD j .unk)) (fV (es.getD j .unk)) = l at hb ⊢
      have hlen := wrL_len (strs l)
      have hn : (out ++ wrL (strs l)).length = out.length + (wrL (strs l)).length := List.length_append
      rw [List.length_append] at hb
      simp only [e1, e2, e3, e4, e5, hok', hall, strs_all, List.drop_zero, Bool.true_and, cond_true, Int.toNat_natCast]
      refine Eq.trans (cond_t (and_t (cnt_zero (decide_eq_true (by omega))) (decide_eq_true ⟨by omega, trivial⟩))) (Eq.trans (cond_t (decide_eq_true ⟨by omega, trivial⟩)) ?_)
      rw [List.append_assoc]
      rfl
    · obtain rfl : j = es.length := by omega
      rw [decide_eq_false (by omega), List.drop_length]
      show k _ _ _ = k _ _ [_, some (.arr false (.int .u8) 5 (out ++ []) none)]
      rw [List.append_nil]
  · cases h
def F36 : List AV → Tr AV
  | [.agg [.slv (.agg [.str, .str]) es, .slv (.int .u8) bs]] => .gd (small es.length && (es.all okF && decide ((wrF es).length ≤ 100000000000 ∧ bs.length ≤ 141000000000000))) (.leaf (.slv (.int .u8) (wrF es ++ two ++ bs)))
  | _ => .no
theorem ok36 : SumOK Tryz.prog 36 (ofT F36) ∧ SNat (ofT F36) := by
  refine fnT (K := [(3, l36), (7, l36b)]) gF Tryz.func36 (bs := [b36, c36]) (by kernel_rfl) (fun b hb => ?_) fun ρ avs k r h => ?_
  · simp at hb
    rcases hb with rfl | rfl
    · exact ⟨l36, by kernel_rfl, loop36⟩
    · exact ⟨l36b, by kernel_rfl, loop36b⟩
  unfold F36 at h
  split at h
  · rename_i es bs
    obtain ⟨hc, hk⟩ := gd_some h
    simp only [Bool.and_eq_true] at hc
    obtain ⟨hc, hall, hb⟩ := hc
    obtain ⟨hb, hb2⟩ := of_decide_eq_true hb
    refine Eq.trans (b := have c80 := [AV.int IntKind.u8 13, AV.int IntKind.u8 10]; bif cnt (↑es.length : Int) (0 : Int) es.length && (es.all okF && decide (([] : List AV).length + (wrF (List.drop (0 : Nat) es)).length ≤ (100000000000 : Nat) ∧ ((3 : Nat), (900 : Nat), (5 : TypeId)).snd.snd = (5 : TypeId))) then bif roomB (([] ++ wrF (List.drop (0 : Nat) es)).length + c80.length) (Tryz.prog.bytesOf 5) then bif roomB (([] ++ wrF (List.drop (0 : Nat) es) ++ c80).length + bs.length) (Tryz.prog.bytesOf 5) then k (AV.slv (Sh.int IntKind.u8) ([] ++ wrF (List.drop (0 : Nat) es) ++ c80 ++ bs)) else none else none else none) (by kernel_rfl) ?_
    conv => zeta
    rw [← hk, List.drop_zero, List.nil_append, hall]
    refine Eq.trans (cond_t (and_t (cnt_zero hc) (and_t rfl (decide_eq_true ⟨by show 0 + _ ≤ _; omega, rfl⟩)))) (Eq.trans (cond_t (room5 (by show _ + 2 ≤ _; omega))) (Eq.trans (cond_t (room5 (by rw [List.length_append]; show _ + 2 + _ ≤ _; omega))) rfl))
  · cases h
def iE (e : AV) : Int := (e.cells.headD .unk).toInt
noncomputable def b93 : Code := ((Tryz.f93.body.map loopsOf).getD []).headD .skip
def bdL (es : List AV) : Nat → Int → Nat → Int × Int × Nat
  | 0, n, i => (0, n, i)
  | f + 1, n, i => bif decide (i < es.length) then
      (bif iE (es.getD i .unk) == 13 && (decide (i + 1 < es.length) && iE (es.getD (i + 1) .unk) == 10) then bdL es f 0 (i + 2)
       else bif iE (es.getD i .unk) == 13 || iE (es.getD i .unk) == 10 then (11, n, i)
       else bif decide (n + 1 > 998) then (1, n + 1, i) else bdL es f (n + 1) (i + 1))
    else (0, n, i)
theorem bdL_step (es : List AV) (f : Nat) (n : Int) (i : Nat) : bdL es (f + 1) n i = bif decide (i < es.length) then
      (bif iE (es.getD i .unk) == 13 && (decide (i + 1 < es.length) && iE (es.getD (i + 1) .unk) == 10) then bdL es f 0 (i + 2)
       else bif iE (es.getD i .unk) == 13 || iE (es.getD i .unk) == 10 then (11, n, i)
       else bif decide (n + 1 > 998) then (1, n + 1, i) else bdL es f (n + 1) (i + 1))
    else (0, n, i) := rfl
theorem bdL_fuel (es : List AV) : ∀ (f g : Nat) (n : Int) (i : Nat), es.length - i < f → es.length - i < g → bdL es f n i = bdL es g n i
  | 0, _, _, _, h, _ => absurd h (Nat.not_lt_zero _)
  | _ + 1, 0, _, _, _, h => absurd h (Nat.not_lt_zero _)
  | f + 1, g + 1, n, i, hf, hg => by
    rw [bdL_step, bdL_step]
    by_cases h : i < es.length
    · rw [bdL_fuel es f g 0 (i + 2) (by omega) (by omega), bdL_fuel es f g (n + 1) (i + 1) (by omega) (by omega)]
    · rw [decide_eq_false h]; rfl
def bd (es : List AV) (n : Int) (i : Nat) : Int × Int × Nat := bdL es (es.length - i + 1) n i
theorem bd_lt {es : List AV} {i : Nat} (h : i < es.length) (n : Int) : bd es n i = bif iE (es.getD i .unk) == 13 && (decide (i + 1 < es.length) && iE (es.getD (i + 1) .unk) == 10) then bd es 0 (i + 2)
       else bif iE (es.getD i .unk) == 13 || iE (es.getD i .unk) == 10 then (11, n, i)
       else bif decide (n + 1 > 998) then (1, n + 1, i) else bd es (n + 1) (i + 1) := by
  unfold bd
  rw [bdL_step, decide_eq_true h, cond_true, bdL_fuel es (es.length - i) (es.length - (i + 1) + 1) (n + 1) (i + 1) (by omega) (by omega)]
  by_cases h2 : i + 1 < es.length
  · rw [bdL_fuel es (es.length - i) (es.length - (i + 2) + 1) 0 (i + 2) (by omega) (by omega)]
  · rw [decide_eq_false h2, Bool.false_and, Bool.and_false]; rfl
theorem bd_end {es : List AV} (n : Int) : bd es n es.length = (0, n, es.length) := by
  unfold bd
  rw [bdL_step, decide_eq_false (Nat.lt_irrefl _)]; rfl
def L93 : List AV → List (Option Row) → Tr LOut
  | [.slv (.int .u8) es, .int .i64 r, .int .i64 n, .int .i64 i], [] =>
    .gd (small es.length && decide (0 ≤ i ∧ i ≤ es.length ∧ 0 ≤ n ∧ n ≤ 998)) (.br ((bd es n i.toNat).1 == 0)
      (.leaf (.exit 0, [.slv (.int .u8) es, .int .i64 r, .int .i64 (bd es n i.toNat).2.1, .int .i64 (bd es n i.toNat).2.2], []))
      (.leaf (.ret, [.slv (.int .u8) es, .int .i64 (bd es n i.toNat).1, .int .i64 (bd es n i.toNat).2.1, .int .i64 (bd es n i.toNat).2.2], [])))
  | _, _ => .no
def l93 : Ev.Loop := ⟨{ len := 45, slots := [0, 2, 3, 4] }, ofL L93⟩
def μ93 (vs : List AV) (_ : List (Option Row)) : Nat := match vs with
  | [.slv _ es, _, _, .int _ i] => ((es.length : Int) - i).toNat
  | _ => 0
theorem loop93 : LoopOK Tryz.prog G0 [(3, l93)] b93 l93 := by
  refine loopT g0.natOK rfl (KOK.nil (by kernel_rfl)) μ93 (fun ρ vs rs k r h => ?_)
  unfold L93 at h
  split at h
  · rename_i es r0 n i
    obtain ⟨hc, hk⟩ := gd_some h
    simp only [Bool.and_eq_true, decide_eq_true_eq] at hc
    obtain ⟨hs, h0, h1, h2, h3⟩ := hc
    have hs : es.length ≤ 9223372036854775807 := of_decide_eq_true hs
    obtain ⟨j, rfl⟩ : ∃ j : Nat, i = j := ⟨i.toNat, by omega⟩
    rw [Int.toNat_natCast] at hk
    refine Eq.trans (b := have c80 := (bd es (IntKind.i64.wrap (n + (1 : Int))) (IntKind.i64.wrap ((↑j : Int) + (1 : Int))).toNat); have c81 := [AV.slv (Sh.int IntKind.u8) es, AV.int IntKind.i64 11, AV.int IntKind.i64 n, AV.int IntKind.i64 (↑j : Int)]; have c82 := (bd es (0 : Int) (IntKind.i64.wrap (IntKind.i64.wrap ((↑j : Int) + (1 : Int)) + (1 : Int))).toNat); have c83 := [AV.slv (Sh.int IntKind.u8) es, AV.int IntKind.i64 1, AV.int IntKind.i64 (IntKind.i64.wrap (n + (1 : Int))), AV.int IntKind.i64 (↑j : Int)]; have c84 := [AV.slv (Sh.int IntKind.u8) es, AV.int IntKind.i64 c80.fst, AV.int IntKind.i64 c80.snd.fst, AV.int IntKind.i64 (↑c80.snd.snd : Int)]; have c85 := [AV.slv (Sh.int IntKind.u8) es, AV.int IntKind.i64 r0, AV.int IntKind.i64 c80.snd.fst, AV.int IntKind.i64 (↑c80.snd.snd : Int)]; bif decide ((↑j : Int) < (↑es.length : Int)) then bif inb (↑j : Int) es.length then bif (iE (es.getD j AV.unk)) == (13 : Int) then bif decide (IntKind.i64.wrap ((↑j : Int) + (1 : Int)) < (↑es.length : Int)) then bif inb (IntKind.i64.wrap ((↑j : Int) + (1 : Int))) es.length then bif (iE (es.getD (IntKind.i64.wrap ((↑j : Int) + (1 : Int))).toNat AV.unk)) == (10 : Int) then bif decide (((↑es.length : Int) - IntKind.i64.wrap (IntKind.i64.wrap ((↑j : Int) + (1 : Int)) + (1 : Int))).toNat < ((↑es.length : Int) - (↑j : Int)).toNat) then bif small es.length && decide ((0 : Int) ≤ IntKind.i64.wrap (IntKind.i64.wrap ((↑j : Int) + (1 : Int)) + (1 : Int)) ∧ IntKind.i64.wrap (IntKind.i64.wrap ((↑j : Int) + (1 : Int)) + (1 : Int)) ≤ (↑es.length : Int) ∧ (0 : Int) ≤ (0 : Int) ∧ (0 : Int) ≤ (998 : Int)) then bif c82.fst == (0 : Int) then k (Ex.exit (0 : Nat)) [AV.slv (Sh.int IntKind.u8) es, AV.int IntKind.i64 r0, AV.int IntKind.i64 c82.snd.fst, AV.int IntKind.i64 (↑c82.snd.snd : Int)] [] else k Ex.ret [AV.slv (Sh.int IntKind.u8) es, AV.int IntKind.i64 c82.fst, AV.int IntKind.i64 c82.snd.fst, AV.int IntKind.i64 (↑c82.snd.snd : Int)] [] else none else none else bif (iE (es.getD j AV.unk)) == (13 : Int) then k Ex.ret c81 [] else bif (iE (es.getD j AV.unk)) == (10 : Int) then k Ex.ret c81 [] else bif decide (IntKind.i64.wrap (n + (1 : Int)) > (998 : Int)) then k Ex.ret c83 [] else bif decide (((↑es.length : Int) - IntKind.i64.wrap ((↑j : Int) + (1 : Int))).toNat < ((↑es.length : Int) - (↑j : Int)).toNat) then bif small es.length && decide ((0 : Int) ≤ IntKind.i64.wrap ((↑j : Int) + (1 : Int)) ∧ IntKind.i64.wrap ((↑j : Int) + (1 : Int)) ≤ (↑es.length : Int) ∧ (0 : Int) ≤ IntKind.i64.wrap (n + (1 : Int)) ∧ IntKind.i64.wrap (n + (1 : Int)) ≤ (998 : Int)) then bif c80.fst == (0 : Int) then k (Ex.exit (0 : Nat)) c85 [] else k Ex.ret c84 [] else none else none else none else bif (iE (es.getD j AV.unk)) == (13 : Int) then k Ex.ret c81 [] else bif (iE (es.getD j AV.unk)) == (10 : Int) then k Ex.ret c81 [] else bif decide (IntKind.i64.wrap (n + (1 : Int)) > (998 : Int)) then k Ex.ret c83 [] else bif decide (((↑es.length : Int) - IntKind.i64.wrap ((↑j : Int) + (1 : Int))).toNat < ((↑es.length : Int) - (↑j : Int)).toNat) then bif small es.length && decide ((0 : Int) ≤ IntKind.i64.wrap ((↑j : Int) + (1 : Int)) ∧ IntKind.i64.wrap ((↑j : Int) + (1 : Int)) ≤ (↑es.length : Int) ∧ (0 : Int) ≤ IntKind.i64.wrap (n + (1 : Int)) ∧ IntKind.i64.wrap (n + (1 : Int)) ≤ (998 : Int)) then bif c80.fst == (0 : Int) then k (Ex.exit (0 : Nat)) c85 [] else k Ex.ret c84 [] else none else none else bif (iE (es.getD j AV.unk)) == (13 : Int) then k Ex.ret c81 [] else bif (iE (es.getD j AV.unk)) == (10 : Int) then k Ex.ret c81 [] else bif decide (IntKind.i64.wrap (n + (1 : Int)) > (998 : Int)) then k Ex.ret c83 [] else bif decide (((↑es.length : Int) - IntKind.i64.wrap ((↑j : Int) + (1 : Int))).toNat < ((↑es.length : Int) - (↑j : Int)).toNat) then bif small es.length && decide ((0 : Int) ≤ IntKind.i64.wrap ((↑j : Int) + (1 : Int)) ∧ IntKind.i64.wrap ((↑j : Int) + (1 : Int)) ≤ (↑es.length : Int) ∧ (0 : Int) ≤ IntKind.i64.wrap (n + (1 : Int)) ∧ IntKind.i64.wrap (n + (1 : Int)) ≤ (998 : Int)) then bif c80.fst == (0 : Int) then k (Ex.exit (0 : Nat)) c85 [] else k Ex.ret c84 [] else none else none else none else k (Ex.exit (0 : Nat)) [AV.slv (Sh.int IntKind.u8) es, AV.int IntKind.i64 r0, AV.int IntKind.i64 n, AV.int IntKind.i64 (↑j : Int)] []) (by kernel_rfl) ?_
    conv => zeta
    rw [← hk]
    by_cases hlt : j < es.length
    · have w1 : IntKind.i64.wrap ((j : Int) + 1) = ((j + 1 : Nat) : Int) := by rw [wrap_small _ (by omega) (by omega)]; omega
      have w3 : IntKind.i64.wrap (n + 1) = n + 1 := wrap_small _ (by omega) (by omega)
      rw [bd_lt hlt]
      have hsm : small es.length = true := decide_eq_true (by omega)
      simp only [w1, w3, Int.toNat_natCast, hsm, Bool.true_and]
      have e2 : inb (j : Int) es.length = true := inb_true (by omega) (by omega)
      rw [decide_eq_true (show (j : Int) < (es.length : Int) by omega), e2, cond_true, cond_true]
      have hgo : ∀ (X : Option ρ), (bif decide ((es.length - ((j + 1 : Nat) : Int)).toNat < ((es.length : Int) - (j : Int)).toNat) then X else none) = X := fun X => cond_t (decide_eq_true (by omega))
      have hz : decide (n + 1 > 998) = false → decide ((0 : Int) ≤ ((j + 1 : Nat) : Int) ∧ ((j + 1 : Nat) : Int) ≤ es.length ∧ 0 ≤ n + 1 ∧ n + 1 ≤ 998) = true := fun h => decide_eq_true ⟨by omega, by omega, by omega, by have := of_decide_eq_false h; omega⟩
      cases h13 : iE (es.getD j .unk) == 13
      · cases h10 : iE (es.getD j .unk) == 10
        · cases h9 : decide (n + 1 > 998)
          · simp only [cond_false, Bool.false_and, Bool.or_false, hgo, hz h9, cond_true]
            rfl
          · rfl
        · rfl
      · by_cases hl1 : j + 1 < es.length
        · have w2 : IntKind.i64.wrap (((j + 1 : Nat) : Int) + 1) = ((j + 2 : Nat) : Int) := by rw [wrap_small _ (by omega) (by omega)]; omega
          have e3 : inb ((j + 1 : Nat) : Int) es.length = true := inb_true (by omega) (by omega)
          rw [decide_eq_true (show ((j + 1 : Nat) : Int) < (es.length : Int) by omega), e3, decide_eq_true hl1]
          simp only [w2, Int.toNat_natCast]
          cases h10 : iE (es.getD (j + 1) .unk) == 10
          · rfl
          · refine Eq.trans (cond_t rfl) (Eq.trans (cond_t rfl) (Eq.trans (cond_t rfl) (Eq.trans (cond_t rfl) (Eq.trans (cond_t (decide_eq_true (by omega))) (Eq.trans (cond_t (decide_eq_true ⟨by omega, by omega, by omega, by omega⟩)) ?_)))))
            rfl
        · rw [decide_eq_false (show ¬ ((j + 1 : Nat) : Int) < (es.length : Int) by omega), decide_eq_false hl1]
          rfl
    · obtain rfl : j = es.length := by omega
      rw [bd_end, decide_eq_false (by omega)]
      rfl
  · cases h
def F93 : List AV → Tr AV
  | [.slv (.int .u8) es] => .gd (small es.length) (.leaf (.int .i64 (bd es 0 0).1))
  | _ => .no
theorem ok93 : SumOK Tryz.prog 93 (ofT F93) ∧ SNat (ofT F93) := by
  refine fn1 (K := [(3, l93)]) (b := b93) (l := l93) g0 Tryz.func93 (by kernel_rfl) (by kernel_rfl) loop93 fun ρ avs k r h => ?_
  unfold F93 at h
  split at h
  · rename_i es
    obtain ⟨hc, hk⟩ := gd_some h
    refine Eq.trans (b := bif small es.length && decide ((0 : Int) ≤ (0 : Int) ∧ (0 : Int) ≤ (↑es.length : Int) ∧ (0 : Int) ≤ (0 : Int) ∧ (0 : Int) ≤ (998 : Int)) then bif (bd es (0 : Int) (0 : Nat)).fst == (0 : Int) then k (AV.int IntKind.i64 0) else k (AV.int IntKind.i64 (bd es (0 : Int) (0 : Nat)).fst) else none) (by kernel_rfl) ?_
    rw [← hk, hc]
    refine Eq.trans (cond_t (and_t rfl (decide_eq_true ⟨by omega, by omega, by omega, by omega⟩))) ?_
    show (bif (bd es 0 0).1 == 0 then _ else _) = _
    cases h0 : (bd es 0 0).1 == 0
    · rfl
    · have : (bd es 0 0).1 = 0 := by simpa using h0
      rw [this]; rfl
  · cases h
end Go.Proofs.YtpmlhkoianekfaaGreatDoor


namespace Go.Proofs.YtpmlhkoianekfaaGreatDoor
open Go.Ev
def mbC (es : List AV) : Int := bif (bd es 0 0).1 == 11 then 11 else bif (bd es 0 0).1 == 1 then 1 else 0
def mbI (es : List AV) : Int := bif (bd es 0 0).1 == 11 then -5 else bif (bd es 0 0).1 == 1 then -6 else 0
noncomputable def G68 : Env := { pure := [(93, ofT F93), (13, evF Tryz.prog G0 [] Tryz.f13), (15, evF Tryz.prog G0 [] Tryz.f15)] }
theorem g68 : GOK Tryz.prog G68 := GOK.also (GOK.also (GOK.also g0 (inl g0 Tryz.func15 (by kernel_rfl))) (inl g0 Tryz.func13 (by kernel_rfl))) ok93
def F68 : List AV → Tr AV
  | [.slv (.int .u8) es] => .gd (small es.length) (.leaf (.agg [.int .i64 (mbC es), .int .i64 (mbI es)]))
  | _ => .no
theorem ok68 : SumOK Tryz.prog 68 (ofT F68) ∧ SNat (ofT F68) := by
  refine fn0 g68 Tryz.func68 (by kernel_rfl) fun ρ avs k r h => ?_
  unfold F68 at h
  split at h
  · rename_i es
    obtain ⟨hc, hk⟩ := gd_some h
    refine Eq.trans (b := bif small es.length then bif (bd es (0 : Int) (0 : Nat)).fst == (11 : Int) then k (AV.agg [AV.int IntKind.i64 11, AV.int IntKind.i64 (-5 : Int)]) else bif (bd es (0 : Int) (0 : Nat)).fst == (1 : Int) then k (AV.agg [AV.int IntKind.i64 1, AV.int IntKind.i64 (-6 : Int)]) else k (AV.agg [AV.int IntKind.i64 0, AV.int IntKind.i64 0]) else none) (by kernel_rfl) ?_
    rw [← hk, hc]
    unfold mbC mbI
    cases (bd es 0 0).1 == 11 <;> cases (bd es 0 0).1 == 1 <;> rfl
  · cases h
theorem fl_total : ∀ (n : Nat) (s : List UInt8) (f : Int), (fl n s f).1.flatten ++ (fl n s f).2.1 = s
  | 0, s, f => rfl
  | n + 1, s, f => by
    rw [fl_step]
    cases h78 : decide ((s.length : Int) > 78)
    · rfl
    · cases hp : pt s f == 0
      · simp only [cond_true, cond_false, List.flatten_cons, List.append_assoc]
        rw [fl_total n]
        exact List.take_append_drop _ _
      · rfl
theorem flL_total (n v : List UInt8) : (flL n v).flatten = n ++ [58, 32] ++ v := by
  unfold flL
  rw [List.flatten_append, List.flatten_singleton]
  exact fl_total _ _ _
theorem wrL_strs : ∀ l : List (List UInt8), (wrL (strs l)).length = l.flatten.length + 2 * l.length
  | [] => rfl
  | x :: l => by
    have ih := wrL_strs l
    unfold wrL strs at ih ⊢
    rw [List.map_cons, List.flatMap_cons, List.length_append, ih, List.length_append, List.flatten_cons, List.length_append, List.length_cons]
    show (bytesAV x).length + 2 + (l.flatten.length + 2 * l.length) = x.length + l.flatten.length + 2 * (l.length + 1)
    rw [bytesAV_length]
    omega
theorem flL_len (n v : List UInt8) : (flL n v).length ≤ n.length + v.length + 3 := by
  have hle := fl_le (n ++ [58, 32] ++ v).length (n ++ [58, 32] ++ v) ((n.length : Int) + 2)
  have hl : (n ++ [58, 32] ++ v).length = n.length + 2 + v.length := by simp only [List.length_append]; rfl
  unfold flL
  rw [List.length_append]
  show _ + 1 ≤ _
  omega
theorem fdL_small (n v : List UInt8) : (wrL (strs (fdL n v))).length ≤ 13000 := by
  unfold fdL
  cases h1 : fnB n
  · exact Nat.zero_le _
  · cases h4 : decide ((v.length : Int) > 4000)
    · cases vlB v
      · exact Nat.zero_le _
      · cases (findN (longL (flL n v)) (flL n v).length 0).isSome
        · show (wrL (strs (flL n v))).length ≤ _
          have hv4 : v.length ≤ 4000 := by have := of_decide_eq_false h4; omega
          have hn60 : n.length ≤ 60 := by
            unfold fnB at h1
            simp only [Bool.and_eq_true, decide_eq_true_eq] at h1
            omega
          have := flL_len n v
          have hl : (n ++ [58, 32] ++ v).length = n.length + 2 + v.length := by simp only [List.length_append]; rfl
          rw [wrL_strs, flL_total, hl]
          omega
        · exact Nat.zero_le _
    · exact Nat.zero_le _
theorem wrF_small : ∀ es : List AV, (wrF es).length ≤ 13000 * es.length
  | [] => Nat.le_refl _
  | e :: es => by
    have ih := wrF_small es
    have := fdL_small (fN e) (fV e)
    unfold wrF at ih ⊢
    rw [List.flatMap_cons, List.length_append, List.length_cons]
    omega
theorem hv_len {es : List AV} (h : (hvC es == 0) = true) : es.length ≤ 60 := by
  unfold hvC at h
  cases h6 : decide ((es.length : Int) > 60)
  · have := of_decide_eq_false h6; omega
  · rw [h6] at h; cases h
def vdC (es bs : List AV) : Int := bif !(hvC es == 0) then hvC es else bif decide (((wrF es ++ two ++ bs).length : Int) > 12000) then 1 else mbC bs
def vdI (es bs : List AV) : Int := bif !(hvC es == 0) then hvI es else bif decide (((wrF es ++ two ++ bs).length : Int) > 12000) then -4 else mbI bs
noncomputable def G35 : Env := { pure := [(43, ofT F43), (36, ofT F36), (68, ofT F68), (19, evF Tryz.prog G0 [] Tryz.f19), (13, evF Tryz.prog G0 [] Tryz.f13), (15, evF Tryz.prog G0 [] Tryz.f15)] }
theorem g35 : GOK Tryz.prog G35 := GOK.also (GOK.also (GOK.also (GOK.also (GOK.also (GOK.also g0 (inl g0 Tryz.func15 (by kernel_rfl))) (inl g0 Tryz.func13 (by kernel_rfl))) (inl g0 Tryz.func19 (by kernel_rfl))) ok68) ok36) ok43
def F35 : List AV → Tr AV
  | [.agg [.slv (.agg [.str, .str]) es, .slv (.int .u8) bs]] => .gd (small es.length && (es.all okF && decide (bs.length ≤ 141000000000000))) (.leaf (.agg [.int .i64 (vdC es bs), .int .i64 (vdI es bs)]))
  | _ => .no
theorem ok35 : SumOK Tryz.prog 35 (ofT F35) ∧ SNat (ofT F35) := by
  refine fn0 g35 Tryz.func35 (by kernel_rfl) fun ρ avs k r h => ?_
  unfold F35 at h
  split at h
  · rename_i es bs
    obtain ⟨hc, hk⟩ := gd_some h
    simp only [Bool.and_eq_true] at hc
    obtain ⟨hc, hall, hb⟩ := hc
    have hb' : bs.length ≤ 141000000000000 := of_decide_eq_true hb
    refine Eq.trans (b := bif small es.length && es.all okF then bif hvC es != (0 : Int) then k (AV.agg [AV.int IntKind.i64 (hvC es), AV.int IntKind.i64 (hvI es)]) else bif small es.length && (es.all okF && decide ((wrF es).length ≤ (100000000000 : Nat) ∧ bs.length ≤ (141000000000000 : Nat))) then bif decide ((↑(wrF es ++ two ++ bs).length : Int) > (12000 : Int)) then k (AV.agg [AV.int IntKind.i64 1, AV.int IntKind.i64 (-4 : Int)]) else bif small bs.length then k (AV.agg [AV.int IntKind.i64 (mbC bs), AV.int IntKind.i64 (mbI bs)]) else none else none else none) (by kernel_rfl) ?_
    rw [← hk, hc, hall]
    unfold vdC vdI
    have hne : (hvC es != 0) = !(hvC es == 0) := rfl
    rw [hne]
    cases h0 : hvC es == 0
    · rfl
    · have h6 := hv_len h0
      have hw := wrF_small es
      rw [decide_eq_true (show (wrF es).length ≤ 100000000000 ∧ bs.length ≤ 141000000000000 from ⟨by omega, hb'⟩), show small bs.length = true from decide_eq_true (by omega)]
      cases decide (((wrF es ++ two ++ bs).length : Int) > 12000) <;> rfl
  · cases h
end Go.Proofs.YtpmlhkoianekfaaGreatDoor


namespace Go.Proofs.YtpmlhkoianekfaaGreatDoor
open Go.Ev
theorem strAV_bytes (s : List UInt8) : strAV (bytesAV s) = s := by
  unfold strAV bytesAV
  rw [List.map_map]
  conv => rhs; rw [← List.map_id s]
  refine List.map_congr_left fun b _ => ?_
  show UInt8.ofNat ((b.toNat : Int).toNat) = b
  rw [Int.toNat_natCast, UInt8.ofNat_toNat]
theorem bytes_app (a b : List UInt8) : bytesAV (a ++ b) = bytesAV a ++ bytesAV b := by unfold bytesAV; rw [List.map_append]
def isBU (c : UInt8) : Bool := isB' (c.toNat : Int)
def sqz : List UInt8 → Bool → List UInt8
  | [], _ => []
  | c :: s, p => bif isBU c then (bif p then sqz s true else 32 :: sqz s true) else c :: sqz s false
def sqF (s : List UInt8) : List UInt8 := Lib.trimSuffix (sqz s false) [32]
def lastSp (es : List AV) : Bool := decide ((es.length : Int) > 0) && iE (es.getD (es.length - 1) .unk) == 32
theorem lastSp_app (es : List AV) (c : Int) : lastSp (es ++ [.int .u8 c]) = (c == 32) := by
  unfold lastSp
  rw [List.length_append, List.length_singleton, decide_eq_true (by omega), Bool.true_and, Nat.add_sub_cancel, List.getD_eq_getElem?_getD, List.getElem?_append_right (Nat.le_refl _), Nat.sub_self]
  rfl
theorem drop_str {s : List UInt8} {i : Nat} (h : i < s.length) : s.drop i = s.getD i 0 :: s.drop (i + 1) := by
  rw [List.drop_eq_getElem_cons h, List.getD, List.getElem?_eq_getElem h]; rfl
noncomputable def G85 : Env := { pure := [(71, ofT F71), (131, ofT F131)], conv := true }
theorem g85 : GOK Tryz.prog G85 := GOK.flags (GOK.also (GOK.also g0 ok131) ok71)
noncomputable def b85 : Code := ((Tryz.f85.body.map loopsOf).getD []).headD .skip
def L85 : List AV → List (Option Row) → Tr LOut
  | [.str s, .own 900, .int .i64 n, .int .i64 i], [some (.arr false (.int .u8) e es none)] =>
    .gd (cnt n i s.length && decide (es.length ≤ i.toNat ∧ s.length ≤ 100000000000 ∧ e = 5)) (.leaf (.exit 0, [.str s, .own 900, .int .i64 n, .int .i64 s.length], [some (.arr false (.int .u8) e (es ++ bytesAV (sqz (s.drop i.toNat) (lastSp es))) none)]))
  | _, _ => .no
def l85 : Ev.Loop := ⟨{ len := 37, slots := [0, 3, 8, 9], rows := [900], homes := [(3, 900, 5)] }, ofL L85⟩
def μ85 (vs : List AV) (_ : List (Option Row)) : Nat := match vs with
  | [_, _, .int _ n, .int _ i] => (n - i).toNat
  | _ => 0
theorem loop85 : LoopOK Tryz.prog G85 [(3, l85)] b85 l85 := by
  refine loopT g85.natOK rfl (KOK.nil (by kernel_rfl)) μ85 (fun ρ vs rs k r h => ?_)
  unfold L85 at h
  split at h
  · rename_i s n i e es
    obtain ⟨hc, hk⟩ := gd_some h
    simp only [Bool.and_eq_true] at hc
    obtain ⟨hc, hb0⟩ := hc
    obtain ⟨hb, hb2, rfl⟩ := of_decide_eq_true hb0
    clear hb0
    obtain ⟨rfl, hs, j, rfl, hj⟩ := cnt_spec hc
    rw [Int.toNat_natCast] at hk hb
    refine Eq.trans (b := have c80 := (IntKind.i64.wrap ((↑j : Int) + (1 : Int))); have c81 := [AV.str s, AV.own 900, AV.int IntKind.i64 (↑s.length : Int), AV.int IntKind.i64 (↑s.length : Int)]; have c82 := ((↑s.length : Int) - IntKind.i64.wrap ((↑j : Int) + (1 : Int))); have c83 := [AV.int IntKind.u8 32]; have c84 := [AV.int IntKind.u8 (↑(s.getD j (0 : UInt8)).toNat : Int)]; bif decide ((↑j : Int) < (↑s.length : Int)) then bif inb (↑j : Int) s.length then bif isB' (↑(s.getD j (0 : UInt8)).toNat : Int) then bif decide ((↑es.length : Int) > (0 : Int)) then bif inb (IntKind.i64.wrap ((↑es.length : Int) - (1 : Int))) es.length then bif decide ((IntKind.i64.wrap ((↑es.length : Int) - (1 : Int))).toNat < es.length) then bif (iE (es.getD (IntKind.i64.wrap ((↑es.length : Int) - (1 : Int))).toNat AV.unk)) == (32 : Int) then bif decide (c82.toNat < ((↑s.length : Int) - (↑j : Int)).toNat) then bif cnt (↑s.length : Int) c80 s.length && decide (es.length ≤ c80.toNat ∧ s.length ≤ (100000000000 : Nat) ∧ (5 : TypeId) = (5 : TypeId)) then k (Ex.exit (0 : Nat)) c81 [some (Row.arr false (Sh.int IntKind.u8) (5 : Nat) (es ++ bytesAV (sqz (List.drop c80.toNat s) (lastSp es))) none)] else none else none else bif roomB (es.length + c83.length) (Tryz.prog.bytesOf 5) then bif decide (c82.toNat < ((↑s.length : Int) - (↑j : Int)).toNat) then bif cnt (↑s.length : Int) c80 s.length && decide ((es ++ c83).length ≤ c80.toNat ∧ s.length ≤ (100000000000 : Nat) ∧ (5 : Nat) = (5 : TypeId)) then k (Ex.exit (0 : Nat)) c81 [some (Row.arr false (Sh.int IntKind.u8) (5 : Nat) (es ++ c83 ++ bytesAV (sqz (List.drop c80.toNat s) (lastSp (es ++ c83)))) none)] else none else none else none else none else none else bif roomB (es.length + c83.length) (Tryz.prog.bytesOf 5) then bif decide (c82.toNat < ((↑s.length : Int) - (↑j : Int)).toNat) then bif cnt (↑s.length : Int) c80 s.length && decide ((es ++ c83).length ≤ c80.toNat ∧ s.length ≤ (100000000000 : Nat) ∧ (5 : Nat) = (5 : TypeId)) then k (Ex.exit (0 : Nat)) c81 [some (Row.arr false (Sh.int IntKind.u8) (5 : Nat) (es ++ c83 ++ bytesAV (sqz (List.drop c80.toNat s) (lastSp (es ++ c83)))) none)] else none else none else none else bif roomB (es.length + c84.length) (Tryz.prog.bytesOf 5) then bif decide (c82.toNat < ((↑s.length : Int) - (↑j : Int)).toNat) then bif cnt (↑s.length : Int) c80 s.length && decide ((es ++ c84).length ≤ c80.toNat ∧ s.length ≤ (100000000000 : Nat) ∧ (5 : Nat) = (5 : TypeId)) then k (Ex.exit (0 : Nat)) c81 [some (Row.arr false (Sh.int IntKind.u8) (5 : Nat) (es ++ c84 ++ bytesAV (sqz (List.drop c80.toNat s) (lastSp (es ++ c84)))) none)] else none else none else none else none else k (Ex.exit (0 : Nat)) [AV.str s, AV.own 900, AV.int IntKind.i64 (↑s.length : Int), AV.int IntKind.i64 (↑j : Int)] [some (Row.arr false (Sh.int IntKind.u8) (5 : Nat) es none)]) (by kernel_rfl) ?_
    conv => zeta
    rw [← hk]
    by_cases hlt : j < s.length
    · obtain ⟨e1, e2, e3, e4, e5⟩ := cnt_facts hlt hs
      rw [drop_str hlt]
      generalize hcc : s.getD j (0 : UInt8) = c
      have h1 : ∀ x : AV, (es ++ [x]).length = es.length + 1 := fun x => by rw [List.length_append]; rfl
      have r5 : ∀ x : AV, roomB (es.length + [x].length) (Tryz.prog.bytesOf 5) = true := fun x => room5 (by show _ + 1 ≤ _; omega)
      have g1 : ∀ x : AV, decide ((es ++ [x]).length ≤ j + 1 ∧ s.length ≤ 100000000000 ∧ True) = true := fun x => decide_eq_true ⟨by rw [h1]; omega, hb2, trivial⟩
      have g0' : decide (es.length ≤ j + 1 ∧ s.length ≤ 100000000000 ∧ True) = true := decide_eq_true ⟨by omega, hb2, trivial⟩
      have hz : ∀ p, bytesAV (sqz (c :: s.drop (j + 1)) p) = bif isBU c then (bif p then bytesAV (sqz (s.drop (j + 1)) true) else [AV.int .u8 32] ++ bytesAV (sqz (s.drop (j + 1)) true)) else [AV.int .u8 (c.toNat : Int)] ++ bytesAV (sqz (s.drop (j + 1)) false) := fun p => by
        show bytesAV (bif isBU c then (bif p then sqz (s.drop (j + 1)) true else 32 :: sqz (s.drop (j + 1)) true) else c :: sqz (s.drop (j + 1)) false) = _
        cases isBU c
        · rfl
        · cases p <;> rfl
      rw [hz]
      have hbl : isB' (c.toNat : Int) = isBU c := rfl
      have hp : ∀ x : AV, IntKind.i64.wrap ((es.length : Int) - 1) = ((es.length - 1 : Nat) : Int) ∨ es.length = 0 := fun _ => by
        by_cases h0 : es.length = 0
        · exact .inr h0
        · exact .inl (by rw [wrap_small _ (by omega) (by omega)]; omega)
      simp only [e1, e2, e3, e4, e5, r5, g1, g0', hbl, lastSp_app, cond_true, Int.toNat_natCast, Bool.true_and]
      have t32 : ((32 : Int) == 32) = true := rfl
      cases hB : isBU c
      · have hne : ((c.toNat : Int) == 32) = false := by
          unfold isBU isB' at hB
          simp only [Bool.or_eq_false_iff] at hB
          exact hB.1
        simp only [hne, cond_false, List.append_assoc]
        rfl
      · cases hg : decide ((es.length : Int) > 0)
        · have hl : lastSp es = false := by unfold lastSp; rw [hg]; rfl
          simp only [hl, t32, cond_false, cond_true, List.append_assoc]
          rfl
        · have hpos : 0 < es.length := by have := of_decide_eq_true hg; omega
          rcases hp .unk with hw | h0
          · have hi : inb ((es.length - 1 : Nat) : Int) es.length = true := inb_true (by omega) (by omega)
            have hd : decide (es.length - 1 < es.length) = true := decide_eq_true (by omega)
            have hl : lastSp es = (iE (es.getD (es.length - 1) .unk) == 32) := by unfold lastSp; rw [hg]; rfl
            simp only [hw, hi, hd, Int.toNat_natCast, cond_true, hl, t32]
            cases iE (es.getD (es.length - 1) .unk) == 32
            · simp only [cond_false, List.append_assoc]
              rfl
            · rfl
          · omega
    · obtain rfl : j = s.length := by omega
      rw [decide_eq_false (by omega), List.drop_length]
      show k _ _ _ = k _ _ [some (.arr false (.int .u8) 5 (es ++ []) none)]
      rw [List.append_nil]
  · cases h
def F85 : List AV → Tr AV
  | [.str s] => .gd (decide (s.length ≤ 100000000000)) (.leaf (.str (sqF s)))
  | _ => .no
theorem sqz_len : ∀ (s : List UInt8) (p : Bool), (sqz s p).length ≤ s.length
  | [], _ => Nat.le_refl _
  | c :: s, p => by
    have h1 := sqz_len s true
    have h2 := sqz_len s false
    unfold sqz
    cases isBU c <;> cases p <;> simp only [cond_true, cond_false, List.length_cons] <;> omega
theorem ok85 : SumOK Tryz.prog 85 (ofT F85) ∧ SNat (ofT F85) := by
  refine fn1 (K := [(3, l85)]) (b := b85) (l := l85) g85 Tryz.func85 (by kernel_rfl) (by kernel_rfl) loop85 fun ρ avs k r h => ?_
  unfold F85 at h
  split at h
  · rename_i s
    obtain ⟨hc, hk⟩ := gd_some h
    have hs : s.length ≤ 100000000000 := of_decide_eq_true hc
    refine Eq.trans (b := bif cnt (↑s.length : Int) (0 : Int) s.length && decide (([] : List AV).length ≤ Int.toNat (0 : Int) ∧ s.length ≤ (100000000000 : Nat) ∧ ((3 : Nat), (900 : Nat), (5 : TypeId)).snd.snd = (5 : TypeId)) then bif small (strAV ([] ++ bytesAV (sqz (List.drop (0 : Nat) s) (lastSp [])))).length then k (AV.str (Lib.trimSuffix (strAV ([] ++ bytesAV (sqz (List.drop (0 : Nat) s) (lastSp [])))) ([32] : List UInt8))) else none else none) (by kernel_rfl) ?_
    rw [← hk, List.drop_zero, List.nil_append, strAV_bytes]
    have hl := sqz_len s (lastSp [])
    exact Eq.trans (cond_t (and_t (cnt_zero (decide_eq_true (by omega))) (decide_eq_true ⟨Nat.le_refl _, hs, rfl⟩))) (cond_t (decide_eq_true (by omega)))
  · cases h
theorem trim_len (s p : List UInt8) : (Lib.trimSuffix s p).length ≤ s.length := by
  unfold Lib.trimSuffix
  split
  · rw [List.length_take]; omega
  · exact Nat.le_refl _
theorem sqF_len (s : List UInt8) : (sqF s).length ≤ s.length := Nat.le_trans (trim_len _ _) (sqz_len s false)
noncomputable def G52 : Env := { pure := [(46, ofT F46), (85, ofT F85)] }
theorem g52 : GOK Tryz.prog G52 := GOK.also (GOK.also g0 ok85) ok46
def fldF (n v : List UInt8) : List UInt8 := lowS n ++ [58] ++ sqF v ++ [13, 10]
def F52 : List AV → Tr AV
  | [.agg [.str n, .str v]] => .gd (decide (n.length ≤ 100000000000 ∧ v.length ≤ 100000000000)) (.leaf (.str (fldF n v)))
  | _ => .no
theorem ok52 : SumOK Tryz.prog 52 (ofT F52) ∧ SNat (ofT F52) := by
  refine fn0 g52 Tryz.func52 (by kernel_rfl) fun ρ avs k r h => ?_
  unfold F52 at h
  split at h
  · rename_i n v
    obtain ⟨hc, hk⟩ := gd_some h
    refine Eq.trans (b := bif small n.length then bif lenB ((lowS n).length + ([58] : List UInt8).length) then bif decide (v.length ≤ (100000000000 : Nat)) then bif lenB ((lowS n ++ ([58] : List UInt8)).length + (sqF v).length) then bif lenB ((lowS n ++ ([58] : List UInt8) ++ sqF v).length + ([13, 10] : List UInt8).length) then k (AV.str (lowS n ++ ([58] : List UInt8) ++ sqF v ++ ([13, 10] : List UInt8))) else none else none else none else none else none) (by kernel_rfl) ?_
    rw [← hk]
    obtain ⟨hn, hv⟩ := of_decide_eq_true hc
    have hl : (lowS n).length = n.length := by unfold lowS; rw [List.length_map]
    have hq : (sqF v).length ≤ v.length := Nat.le_trans (sqF_len v) (Nat.le_refl _)
    refine Eq.trans (cond_t (decide_eq_true (by omega))) (Eq.trans (cond_t (decide_eq_true (by show _ + 1 ≤ _; omega))) (Eq.trans (cond_t (decide_eq_true hv)) (Eq.trans (cond_t (decide_eq_true ?_)) (Eq.trans (cond_t (decide_eq_true ?_)) rfl))))
    · rw [List.length_append]; show _ + 1 + _ ≤ _; omega
    · rw [List.length_append, List.length_append]; show _ + 1 + _ + 2 ≤ _; omega
  · cases h
end Go.Proofs.YtpmlhkoianekfaaGreatDoor

namespace Go.Proofs.YtpmlhkoianekfaaGreatDoor
open Go.Ev Go.RowKit
theorem heap_new (w : World) (o : Obj) : (w.alloc o).heap[w.heap.size]? = some o := heap_alloc_new w o
theorem heap_old (w : World) (o : Obj) {k : Nat} (h : k < w.heap.size) : (w.alloc o).heap[k]? = w.heap[k]? := heap_alloc_old w o h
theorem slv_keep {w w' : World} {S S' : Nat → Prop} {β β' : Bet} {s : Sh} {es : List AV} {v : Value} (h : VRel w S β (.slv s es) v) (hS : ∀ b, S b → S' b) (hw : ∀ b, S b → w'.heap[b]? = w.heap[b]?) : VRel w' S' β' (.slv s es) v := by
  cases h with
  | slv _ _ _ A c a xs hs hc hm hA hl h1 hx hr =>
    exact (VRel.slv nob s es A c a xs hs hc hm hA hl h1 hx hr).mono hS hw (fun _ _ h => by cases h)
theorem run132 (s sep : Value) (h1 : s.oneCell' = true) (h2 : sep.oneCell' = true) (n : Int) (w : World) :
    Calls Tryz.prog 132 #[s, sep, .int .i64 n] w fun e w' => e = .returned (.func (.func 180) #[] #[.pointer (some ⟨w.heap.size + 1, 0, none⟩), .pointer (some ⟨w.heap.size, 0, none⟩), .pointer (some ⟨w.heap.size + 2, 0, none⟩)]) ∧
      w' = ((w.alloc (.cells #[s] 22)).alloc (.cells #[sep] 22)).alloc (.cells #[.int .i64 n] 3) := by
  go_enter Tryz.func132, Tryz.ntmps132
  go_wp2
  go_ret
  exact ⟨rfl, rfl⟩
theorem run86 (s sep : Value) (h1 : s.oneCell' = true) (h2 : sep.oneCell' = true) (w : World) :
    Calls Tryz.prog 86 #[s, sep] w fun e w' => e = .returned (.func (.func 180) #[] #[.pointer (some ⟨w.heap.size + 1, 0, none⟩), .pointer (some ⟨w.heap.size, 0, none⟩), .pointer (some ⟨w.heap.size + 2, 0, none⟩)]) ∧
      w' = ((w.alloc (.cells #[s] 22)).alloc (.cells #[sep] 22)).alloc (.cells #[.int .i64 0] 3) := by
  have e132 : ∀ args w, (callFunc 132 args).run Tryz.prog w = .ok (.enter 132 args) w := enters_of Tryz.func132 (by kernel_rfl) rfl
  have hc := run132 s sep h1 h2
  go_enter Tryz.func86, Tryz.ntmps86
  go_wp2_with (go_at_fn 132; refine (hc 0 _).mono ?_; rintro e w' ⟨rfl, rfl⟩)
  go_ret
  exact ⟨rfl, rfl⟩
def F86 : List AV → List Row → Tr XOut
  | [.slv (.int .u8) es, .own p], [.arr _im (.int .u8) _e fs _sp] => .gd (p == PID) (.leaf (.fn 180 [.ptr (RID + 1) 0, .ptr RID 0, .ptr (RID + 2) 0], [none], [.box false [.slv (.int .u8) es], .box false [.slv (.int .u8) fs], .box false [.int .i64 0]]))
  | _, _ => .no
theorem upd3 {α : Type} {f : Nat → Option α} {i a b c : Nat} {x y z : Option α} {q : α} (h : upd (upd (upd f a x) b y) c z i = some q) : (i = c ∧ z = some q) ∨ (i ≠ c ∧ i = b ∧ y = some q) ∨ (i ≠ c ∧ i ≠ b ∧ i = a ∧ x = some q) ∨ (i ≠ c ∧ i ≠ b ∧ i ≠ a ∧ f i = some q) := by
  unfold upd at h
  split at h
  · exact .inl ⟨by assumption, h⟩
  · split at h
    · exact .inr (.inl ⟨by assumption, by assumption, h⟩)
    · split at h
      · exact .inr (.inr (.inl ⟨by assumption, by assumption, by assumption, h⟩))
      · exact .inr (.inr (.inr ⟨by assumption, by assumption, by assumption, h⟩))
theorem ok86 : XOK Tryz.prog 86 (ofX F86) ∧ XNat (ofX F86) := by
  refine ⟨fun ρ w S B β og avs rows args k r hH hSB hdom hv h => ?_, xnat_ofX F86⟩
  have h' : (F86 avs rows).run (fun q => k q.1 q.2.1 q.2.2) = some r := h
  unfold F86 at h'
  split at h'
  · rename_i es p im e fs sp
    obtain ⟨hc, hk⟩ := gd_some h'
    obtain rfl : p = PID := by simpa using hc
    have hr0 := hH.row PID (.arr im (.int .u8) e fs sp) (by simp [zipIds, lookup])
    have hogB : ∀ g, og PID = some g → ¬ B g := fun g hg => by
      obtain ⟨_, v, sp', xs, _, _, _, _, _, hor⟩ := hr0
      rcases hor with ⟨_, _, hn, _⟩ | ⟨g', hg', _, hB, _⟩
      · rw [hn] at hg; cases hg
      · rw [hg'] at hg; cases hg; exact hB
    obtain ⟨v, vs, rfl, h1, hv⟩ := hv.inv
    obtain ⟨u, us, rfl, h2, hv⟩ := hv.inv
    obtain rfl := hv.inv_nil
    obtain ⟨v0, hb0, hs0, _⟩ := arr_slv (S' := fun b => S b ∨ og PID = some b) hr0 (fun _ h => .inl h) (fun g hg => .inr hg) nob
    have hu : u = v0 := by
      cases h2 with
      | own _ _ _ wd hb => rw [hb0] at hb; simp at hb; exact hb.1.symm
    subst hu
    have hv1 : v.oneCell' = true := by cases h1 with | slv => rfl
    have hu1 : u.oneCell' = true := hH.one _ _ hb0
    refine .inl ⟨by kernel_rfl, (run86 v u hv1 hu1 w).mono fun e1 w' hq => ?_⟩
    obtain ⟨he, hw⟩ := hq
    have hsz : w'.heap.size = w.heap.size + 3 := by rw [hw]; simp
    have hold : ∀ k, k < w.heap.size → w'.heap[k]? = w.heap[k]? := fun k hk => by
      rw [hw, heap_old _ _ (by simp; omega), heap_old _ _ (by simp; omega), heap_old _ _ hk]
    have n0 : w'.heap[w.heap.size]? = some (.cells #[v] 22) := by
      rw [hw, heap_old _ _ (by simp; omega), heap_old _ _ (by simp), heap_new]
    have n1 : w'.heap[w.heap.size + 1]? = some (.cells #[u] 22) := by
      rw [hw, heap_old _ _ (by simp)]
      have := heap_new (w.alloc (.cells #[v] 22)) (.cells #[u] 22)
      simpa using this
    have n2 : w'.heap[w.heap.size + 2]? = some (.cells #[.int .i64 0] 3) := by
      rw [hw]
      have := heap_new ((w.alloc (.cells #[v] 22)).alloc (.cells #[u] 22)) (.cells #[.int .i64 0] 3)
      simpa using this
    have hbel : Below w.heap.size w w' := ⟨by rw [hw]; rfl, by rw [hw]; rfl, by rw [hw]; rfl, by omega, hold⟩
    have hS' : ∀ b, (S b ∨ og PID = some b) → b < w.heap.size := fun b h => h.elim (hH.Slt b) (fun h => hH.lt _ _ h)
    have hnS : ∀ j, ¬ (S (w.heap.size + j) ∨ og PID = some (w.heap.size + j)) := fun j h => by have := hS' _ h; omega
    have hnB : ∀ j, ¬ B (w.heap.size + j) := fun j h => by have := hH.Ble _ h; omega
    have hw' : ∀ b, (S b ∨ og PID = some b) → w'.heap[b]? = w.heap[b]? := fun b h => hold b (hS' b h)
    let P := fun j : Nat => Value.pointer (some ⟨w.heap.size + j, 0, none⟩)
    let β' : Bet := upd (upd (upd β RID (some (P 0, 1))) (RID + 1) (some (P 1, 1))) (RID + 2) (some (P 2, 1))
    let og' : Nat → Option Nat := upd (upd (upd (fun i => bif i == PID then none else og i) RID (some w.heap.size)) (RID + 1) (some (w.heap.size + 1))) (RID + 2) (some (w.heap.size + 2))
    have b2 : β' (RID + 2) = some (P 2, 1) := upd_same _ _ _
    have b1 : β' (RID + 1) = some (P 1, 1) := by show upd _ _ _ _ = _; rw [upd_other _ _ _ _ (by simp), upd_same]
    have b0 : β' RID = some (P 0, 1) := by show upd _ _ _ _ = _; rw [upd_other _ _ _ _ (by simp), upd_other _ _ _ _ (by simp), upd_same]
    have o2 : og' (RID + 2) = some (w.heap.size + 2) := upd_same _ _ _
    have o1 : og' (RID + 1) = some (w.heap.size + 1) := by show upd _ _ _ _ = _; rw [upd_other _ _ _ _ (by simp), upd_same]
    have o0 : og' RID = some w.heap.size := by show upd _ _ _ _ = _; rw [upd_other _ _ _ _ (by simp), upd_other _ _ _ _ (by simp), upd_same]
    have hogo : ∀ i g, (bif i == PID then none else og i) = some g → og i = some g := fun i g h => by
      cases hi : i == PID
      · rw [hi] at h; exact h
      · rw [hi] at h; cases h
    refine ⟨_, _, _, _, (fun b => S b ∨ og PID = some b), β', og', he, hk, ?_⟩
    refine ⟨Kept.of_below hbel hH.Ble, fun _ h => .inl h, fun b h => h.imp id (hogB b), .fn _ 180 _ [P 1, P 0, P 2] rfl fun j c u hc hu => ?_, fun j r hj => ?_, fun j r hj => ?_, fun id id' g hg hg' => ?_, fun id g hg => ?_, fun id x hx => ?_, fun b hb => by have := hS' b hb; omega, fun id x hid hx => ?_⟩
    · match j with
      | 0 => simp at hc hu; subst hc hu; exact .ptr _ _ _ _ _ b1
      | 1 => simp at hc hu; subst hc hu; exact .ptr _ _ _ _ _ b0
      | 2 => simp at hc hu; subst hc hu; exact .ptr _ _ _ _ _ b2
      | j + 3 => simp at hc
    · match j with
      | 0 => simp at hj
      | j + 1 => simp at hj
    · match j with
      | 0 =>
        simp only [List.getElem?_cons_zero, Option.some.injEq] at hj
        subst hj
        exact ⟨w.heap.size, [v], P 0, o0, b0, .inl ⟨⟨22, n0⟩, rfl, fun u hu => by simp at hu; subst hu; exact hv1⟩, VRels.cons (slv_keep h1 (fun _ h => .inl h) (fun b hb => hold b (hH.Slt b hb))) VRels.nil, fun _ => hnS 0, (fun h => by cases h), hnB 0⟩
      | 1 =>
        simp only [List.getElem?_cons_succ, List.getElem?_cons_zero, Option.some.injEq] at hj
        subst hj
        exact ⟨w.heap.size + 1, [u], P 1, o1, b1, .inl ⟨⟨22, n1⟩, rfl, fun u' hu => by simp at hu; subst hu; exact hu1⟩, VRels.cons (slv_keep hs0 (fun _ h => h) hw') VRels.nil, fun _ => hnS 1, (fun h => by cases h), hnB 1⟩
      | 2 =>
        simp only [List.getElem?_cons_succ, List.getElem?_cons_zero, Option.some.injEq] at hj
        subst hj
        exact ⟨w.heap.size + 2, [.int .i64 0], P 2, o2, b2, .inl ⟨⟨3, n2⟩, rfl, fun u' hu => by simp at hu; subst hu; rfl⟩, VRels.cons (.int _ _ _) VRels.nil, fun _ => hnS 2, (fun h => by cases h), hnB 2⟩
      | j + 3 => simp at hj
    · rcases upd3 hg with ⟨e1, h1⟩ | ⟨_, e1, h1⟩ | ⟨_, _, e1, h1⟩ | ⟨_, _, _, h1⟩ <;> rcases upd3 hg' with ⟨e2, h2⟩ | ⟨_, e2, h2⟩ | ⟨_, _, e2, h2⟩ | ⟨_, _, _, h2⟩
      all_goals first
        | (rw [e1, e2]; done)
        | (exfalso; simp only [Option.some.injEq] at h1 h2; omega)
        | (exfalso; have := hH.lt _ _ (hogo _ _ h2); simp only [Option.some.injEq] at h1; omega)
        | (exfalso; have := hH.lt _ _ (hogo _ _ h1); simp only [Option.some.injEq] at h2; omega)
        | exact hH.inj _ _ _ (hogo _ _ h1) (hogo _ _ h2)
    · rcases upd3 hg with ⟨_, h1⟩ | ⟨_, _, h1⟩ | ⟨_, _, _, h1⟩ | ⟨_, _, _, h1⟩
      · simp only [Option.some.injEq] at h1; omega
      · simp only [Option.some.injEq] at h1; omega
      · simp only [Option.some.injEq] at h1; omega
      · have := hH.lt _ _ (hogo _ _ h1); omega
    · rcases upd3 hx with ⟨_, h1⟩ | ⟨_, _, h1⟩ | ⟨_, _, _, h1⟩ | ⟨_, _, _, h1⟩
      · cases h1; rfl
      · cases h1; rfl
      · cases h1; rfl
      · exact hH.one _ _ h1
    · rcases upd3 hx with ⟨e1, _⟩ | ⟨_, e1, _⟩ | ⟨_, _, e1, _⟩ | ⟨_, _, _, h1⟩
      · omega
      · omega
      · omega
      · exact h1
  · cases h'
end Go.Proofs.YtpmlhkoianekfaaGreatDoor
