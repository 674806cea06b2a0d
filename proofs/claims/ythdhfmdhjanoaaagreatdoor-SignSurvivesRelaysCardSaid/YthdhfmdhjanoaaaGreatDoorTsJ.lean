/-
  Canonical forms of fields.
-/
import Derived.Test.YthdhfmdhjanoaaaGreatDoorTsE
import Derived.Deep.LoopGhost
import Derived.Lib.OthersKept
import Derived.Laws.RangeAny
import Derived.Deep.QuietTactic
import Derived.BigQuiet
import Derived.Deep.RegionWith

namespace Go.Proofs.YthdhfmdhjanoaaaGreatDoor
open Go.Ev Go.RowKit Go.Lib
set_option maxHeartbeats 2000000 in
set_option maxRecDepth 1000000 in
theorem run156_bad (s : ByteArray) (r : Int) (w : World) (h0 : 128 ≤ r) (hne : r ≠ 65533) (hb : Lib.validRune r = false) :
    Calls Tryz.prog 156 #[.string s, .int .i32 r] w fun e w' => e = .returned (.int .i64 (-1)) ∧ w' = w := by
  have e163 : ∀ args w, (callFunc 163 args).run Tryz.prog w = .ok (.enter 163 args) w := enters_of Tryz.func163 (by kernel_rfl) rfl
  have hv := Tryz.utf8_ValidRune r
  rw [hb] at hv
  clear hb
  have n1 : ¬ r < 128 := by omega
  have n2 : (r == 65533) = false := by simpa using hne
  clear hne
  go_enter Tryz.func156, Tryz.ntmps156
  go_wp2_with (go_at_fn 163; refine (hv _).mono ?_; rintro e w' ⟨rfl, rfl⟩)
  go_ret
  exact ⟨rfl, rfl⟩
theorem no_byte {l : List UInt8} (h : ∀ b ∈ l, b.toNat < 128) {c : UInt8} (hc : 128 ≤ c.toNat) : Lib.indexByte l c = -1 := by
  induction l with
  | nil => rfl
  | cons b l ih =>
    have h1 := h b (by simp)
    have hne : (b == c) = false := by
      cases hh : b == c
      · rfl
      · have := eq_of_beq hh; subst this; omega
    unfold Lib.indexByte
    rw [hne, ih (fun x hx => h x (by simp [hx]))]
    rfl
theorem iter_below (w : World) (s : ByteArray) (i : Nat) : Below w.heap.size w (w.iter s i) := (Below.refl _ _).alloc (Nat.le_refl _) _
set_option maxHeartbeats 4000000 in
set_option maxRecDepth 1000000 in
theorem run156_two (r : Int) (w : World) (h0 : 128 ≤ r) (hne : r ≠ 65533) (hb : Lib.validRune r = true) (a c : UInt8) (hrs : Utf8.encode r = ⟨#[a, c]⟩) (hc : 128 ≤ c.toNat) :
    Calls Tryz.prog 156 #[.string ⟨#[13, 10, 0]⟩, .int .i32 r] w fun e w' => e = .returned (.int .i64 (-1)) ∧ Below w.heap.size w w' := by
  have e163 : ∀ args w, (callFunc 163 args).run Tryz.prog w = .ok (.enter 163 args) w := enters_of Tryz.func163 (by kernel_rfl) rfl
  have e162 : ∀ args w, (callFunc 162 args).run Tryz.prog w = .ok (.enter 162 args) w := enters_of Tryz.func162 (by kernel_rfl) rfl
  have hv := Tryz.utf8_ValidRune r
  rw [hb] at hv
  clear hb
  have n1 : ¬ r < 128 := by omega
  have n2 : (r == 65533) = false := by simpa using hne
  clear hne
  go_enter Tryz.func156, Tryz.ntmps156
  go_wp2_with (go_at_fn 163; refine (hv _).mono ?_; rintro e w' ⟨rfl, hw⟩; rw [hw])
  go_step3
  go_wp2
  go_loopg [9, 10, 11, 12] 1 (fun g i _ _ _ wx => g = 1 ∧ i = .int .i64 1 ∧ wx = w)
  case atStart => exact ⟨rfl, by simp [hrs], rfl⟩
  case round =>
    obtain ⟨rfl, rfl, rfl⟩ := hrel
    have hib := fun w => Tryz.strings_IndexByte ((ByteArray.mk #[13, 10, 0]).extract 2 3) (((ByteArray.mk #[a, c])[1]'(by show 1 < 2; decide)).toNat : Int) w
    rw [show Lib.indexByte ((ByteArray.mk #[13, 10, 0]).extract 2 3).data.toList (((ByteArray.mk #[a, c])[1]'(by show 1 < 2; decide)).toNat : Int).toNat.toUInt8 = -1 from no_byte (by decide) (by show 128 ≤ ((c.toNat : Int).toNat.toUInt8).toNat; simpa using hc)] at hib
    have d1 : ((((ByteArray.mk #[13, 10, 0])[1]'(by show 1 < 3; decide)).toNat : Int) != (((ByteArray.mk #[a, c])[1]'(by show 1 < 2; decide)).toNat : Int)) = true := by
      show ((10 : Int) != (c.toNat : Int)) = true
      rw [bne_iff_ne]
      omega
    go_wp2
    go_step3
    go_wp2
    go_quiet (fail)
    go_wp2
    go_quiet (first | (go_at_call 162; exact (hib _).mono (fun e w' hq => ⟨hq.1, _, hq.2⟩)))
    go_wp2
    simp only [Exit.noGoto, Exit.inBlock, Exit.then]
    go_ret
    exact ⟨rfl, ⟨rfl, rfl, rfl, Nat.le_refl _, fun _ _ => rfl⟩⟩
set_option maxHeartbeats 4000000 in
set_option maxRecDepth 1000000 in
theorem run156_three (r : Int) (w : World) (h0 : 128 ≤ r) (hne : r ≠ 65533) (hb : Lib.validRune r = true) (a b c : UInt8) (hrs : Utf8.encode r = ⟨#[a, b, c]⟩) (hc : 128 ≤ c.toNat) :
    Calls Tryz.prog 156 #[.string ⟨#[13, 10, 0]⟩, .int .i32 r] w fun e w' => e = .returned (.int .i64 (-1)) ∧ Below w.heap.size w w' := by
  have e163 : ∀ args w, (callFunc 163 args).run Tryz.prog w = .ok (.enter 163 args) w := enters_of Tryz.func163 (by kernel_rfl) rfl
  have e162 : ∀ args w, (callFunc 162 args).run Tryz.prog w = .ok (.enter 162 args) w := enters_of Tryz.func162 (by kernel_rfl) rfl
  have hv := Tryz.utf8_ValidRune r
  rw [hb] at hv
  clear hb
  have n1 : ¬ r < 128 := by omega
  have n2 : (r == 65533) = false := by simpa using hne
  clear hne
  go_enter Tryz.func156, Tryz.ntmps156
  go_wp2_with (go_at_fn 163; refine (hv _).mono ?_; rintro e w' ⟨rfl, hw⟩; rw [hw])
  go_step3
  go_wp2
  go_loopg [9, 10, 11, 12] 1 (fun g i _ _ _ wx => g = 1 ∧ i = .int .i64 2 ∧ wx = w)
  case atStart => exact ⟨rfl, by simp [hrs], rfl⟩
  case round =>
    obtain ⟨rfl, rfl, rfl⟩ := hrel
    have hib := fun w => Tryz.strings_IndexByte ((ByteArray.mk #[13, 10, 0]).extract 3 3) (((ByteArray.mk #[a, b, c])[2]'(by show 2 < 3; decide)).toNat : Int) w
    rw [show Lib.indexByte ((ByteArray.mk #[13, 10, 0]).extract 3 3).data.toList (((ByteArray.mk #[a, b, c])[2]'(by show 2 < 3; decide)).toNat : Int).toNat.toUInt8 = -1 from no_byte (by decide) (by show 128 ≤ ((c.toNat : Int).toNat.toUInt8).toNat; simpa using hc)] at hib
    have d1 : ((((ByteArray.mk #[13, 10, 0])[2]'(by show 2 < 3; decide)).toNat : Int) != (((ByteArray.mk #[a, b, c])[2]'(by show 2 < 3; decide)).toNat : Int)) = true := by
      show ((0 : Int) != (c.toNat : Int)) = true
      rw [bne_iff_ne]
      omega
    go_wp2
    go_step3
    go_wp2
    go_quiet (fail)
    go_wp2
    go_quiet (first | (go_at_call 162; exact (hib _).mono (fun e w' hq => ⟨hq.1, _, hq.2⟩)))
    go_wp2
    simp only [Exit.noGoto, Exit.inBlock, Exit.then]
    go_ret
    exact ⟨rfl, ⟨rfl, rfl, rfl, Nat.le_refl _, fun _ _ => rfl⟩⟩
set_option maxHeartbeats 4000000 in
set_option maxRecDepth 1000000 in
theorem run156_four (r : Int) (w : World) (h0 : 128 ≤ r) (hne : r ≠ 65533) (hb : Lib.validRune r = true) (a b d c : UInt8) (hrs : Utf8.encode r = ⟨#[a, b, d, c]⟩) (_hc : 128 ≤ c.toNat) :
    Calls Tryz.prog 156 #[.string ⟨#[13, 10, 0]⟩, .int .i32 r] w fun e w' => e = .returned (.int .i64 (-1)) ∧ Below w.heap.size w w' := by
  have e163 : ∀ args w, (callFunc 163 args).run Tryz.prog w = .ok (.enter 163 args) w := enters_of Tryz.func163 (by kernel_rfl) rfl
  have e162 : ∀ args w, (callFunc 162 args).run Tryz.prog w = .ok (.enter 162 args) w := enters_of Tryz.func162 (by kernel_rfl) rfl
  have hv := Tryz.utf8_ValidRune r
  rw [hb] at hv
  clear hb
  have n1 : ¬ r < 128 := by omega
  have n2 : (r == 65533) = false := by simpa using hne
  clear hne
  go_enter Tryz.func156, Tryz.ntmps156
  go_wp2_with (go_at_fn 163; refine (hv _).mono ?_; rintro e w' ⟨rfl, hw⟩; rw [hw])
  go_step3
  go_wp2
  go_loopg [9, 10, 11, 12] 1 (fun g i _ _ _ wx => g = 1 ∧ i = .int .i64 3 ∧ wx = w)
  case atStart => exact ⟨rfl, by simp [hrs], rfl⟩
  case round =>
    obtain ⟨rfl, rfl, rfl⟩ := hrel
    go_wp2
    simp only [Exit.noGoto, Exit.inBlock]
    go_wp2
    go_ret
    exact ⟨rfl, Below.refl _ _⟩
set_option maxHeartbeats 4000000 in
set_option maxRecDepth 1000000 in
theorem run156_err (w : World) :
    Calls Tryz.prog 156 #[.string ⟨#[13, 10, 0]⟩, .int .i32 65533] w fun e w' => e = .returned (.int .i64 (-1)) ∧ Below w.heap.size w w' := by
  have hs : (ByteArray.mk #[13, 10, 0]).size = 3 := rfl
  go_enter Tryz.func156, Tryz.ntmps156
  go_wp2
  go_loopg [5, 6] 3 (fun g _ _ wx => ∃ i : Nat, i + g = 3 ∧ wx = w.iter ⟨#[13, 10, 0]⟩ i)
  case atStart => exact ⟨0, by omega, rfl⟩
  case round =>
    obtain ⟨i, hig, rfl⟩ := hrel
    cases gk with
    | zero =>
      obtain rfl : i = 3 := by omega
      have hnx := fun ty => run_next_end (P := Tryz.prog) w ⟨#[13, 10, 0]⟩ 3 ty (by decide)
      go_wp2
      go_ret
      exact ⟨rfl, iter_below _ _ _⟩
    | succ g =>
      have hi : i < (ByteArray.mk #[13, 10, 0]).size := by rw [hs]; omega
      have hx128 : ((ByteArray.mk #[13, 10, 0])[i]'hi).toNat < 128 := by
        have : ∀ i (hi : i < (ByteArray.mk #[13, 10, 0]).size), ((ByteArray.mk #[13, 10, 0])[i]'hi).toNat < 128 := by decide
        exact this i hi
      have hnx := fun ty => run_next_ascii (P := Tryz.prog) w ⟨#[13, 10, 0]⟩ i ty hi hx128
      have hne : ((((ByteArray.mk #[13, 10, 0])[i]'hi).toNat : Int) == 65533) = false := by
        rw [beq_eq_false_iff_ne]; omega
      go_wp2
      go_roundg g
      case measure => omega
      case rel => exact ⟨i + 1, by omega, rfl⟩
theorem run156_hi (r : Int) (w : World) (h0 : 128 ≤ r) :
    Calls Tryz.prog 156 #[.string ⟨#[13, 10, 0]⟩, .int .i32 r] w fun e w' => e = .returned (.int .i64 (-1)) ∧ Below w.heap.size w w' := by
  by_cases hne : r = 65533
  · subst hne; exact run156_err w
  · cases hb : Lib.validRune r
    · exact (run156_bad ⟨#[13, 10, 0]⟩ r w h0 hne hb).mono fun e w' hq => ⟨hq.1, hq.2 ▸ Below.refl _ _⟩
    · have hv : Utf8.valid r = true := by
        unfold Lib.validRune at hb
        unfold Utf8.valid
        simp only [decide_eq_true_eq, Bool.or_eq_true, Bool.and_eq_true] at hb ⊢
        omega
      have hlast : ∀ n : Nat, 128 ≤ (UInt8.ofNat (0x80 + n % 64)).toNat := fun n => by
        rw [UInt8.toNat_ofNat_of_lt' (by show _ < 256; omega)]; omega
      have he : Utf8.encode r = if r.toNat < 0x80 then ⟨#[UInt8.ofNat r.toNat]⟩
          else if r.toNat < 0x800 then ⟨#[UInt8.ofNat (0xC0 + r.toNat / 64), UInt8.ofNat (0x80 + r.toNat % 64)]⟩
          else if r.toNat < 0x10000 then ⟨#[UInt8.ofNat (0xE0 + r.toNat / 4096), UInt8.ofNat (0x80 + r.toNat / 64 % 64), UInt8.ofNat (0x80 + r.toNat % 64)]⟩
          else ⟨#[UInt8.ofNat (0xF0 + r.toNat / 262144), UInt8.ofNat (0x80 + r.toNat / 4096 % 64), UInt8.ofNat (0x80 + r.toNat / 64 % 64), UInt8.ofNat (0x80 + r.toNat % 64)]⟩ := by
        unfold Utf8.encode
        simp only [hv, if_true]
      rw [if_neg (by omega)] at he
      by_cases h2 : r.toNat < 0x800
      · rw [if_pos h2] at he
        exact run156_two r w h0 hne hb _ _ he (hlast _)
      · rw [if_neg h2] at he
        by_cases h3 : r.toNat < 0x10000
        · rw [if_pos h3] at he
          exact run156_three r w h0 hne hb _ _ _ he (hlast _)
        · rw [if_neg h3] at he
          exact run156_four r w h0 hne hb _ _ _ _ he (hlast _)
theorem decode_cont (s : ByteArray) (pos k : Nat) (h1 : 1 ≤ k) (h2 : k < (Utf8.decode s pos).2) : 128 ≤ (s.get! (pos + k)).toNat := by
  simp only [Utf8.decode] at h2
  have hk : k = 1 ∨ k = 2 ∨ k = 3 := by
    repeat' split at h2
    all_goals (simp only [] at h2; omega)
  rcases hk with rfl | rfl | rfl
  all_goals
    repeat' split at h2
  all_goals (simp only [Bool.and_eq_true, decide_eq_true_eq, beq_iff_eq] at *; omega)
theorem decode_room (s : ByteArray) (pos : Nat) (h : pos < s.size) : pos + (Utf8.decode s pos).2 ≤ s.size := by
  simp only [Utf8.decode]
  repeat' split
  all_goals (simp only [Bool.and_eq_true, decide_eq_true_eq, beq_iff_eq] at *; omega)
theorem crlf0_no {b : UInt8} (h : 128 ≤ b.toNat) : [(13 : UInt8), 10, 0].contains b = false := by
  cases hc : [(13 : UInt8), 10, 0].contains b
  · rfl
  · simp at hc
    rcases hc with rfl | rfl | rfl <;> simp at h
theorem noAny_far {s : List UInt8} {c : List UInt8} {i n : Nat} (h : Lib.NoAny s c i) (hn : ∀ j b, i ≤ j → j < n → s[j]? = some b → c.contains b = false) : Lib.NoAny s c n := fun j b hj hb => by
  by_cases hlt : j < i
  · exact h j b hlt hb
  · exact hn j b (by omega) hj hb
set_option maxHeartbeats 8000000 in
set_option maxRecDepth 1000000 in
theorem run147_short (s : ByteArray) (w : World) (h8 : s.size ≤ 8) :
    Calls Tryz.prog 147 #[.string s, .string ⟨#[13, 10, 0]⟩] w fun e w' => e = .returned (.int .i64 (Lib.indexAny s.data.toList [13, 10, 0])) ∧ Below w.heap.size w w' := by
  have h8z : decide ((8 : Int) < (s.size : Int)) = false := decide_eq_false (by omega)
  have e156 : ∀ args w, (callFunc 156 args).run Tryz.prog w = .ok (.enter 156 args) w := enters_of Tryz.func156 (by kernel_rfl) rfl
  have e157 : ∀ args w, (callFunc 157 args).run Tryz.prog w = .ok (.enter 157 args) w := enters_of Tryz.func157 (by kernel_rfl) rfl
  have hasc := fun r => Tryz.strings_IndexRune_ascii ⟨#[13, 10, 0]⟩ r
  go_enter Tryz.func147, Tryz.ntmps147
  go_wp2_with (go_at_fn 157; refine (Tryz.strings_shouldUseASCIISet _ _).mono ?_; rintro e w' ⟨rfl, hw⟩; rw [hw, h8z])
  go_loopg [9, 10] s.size (fun g _ _ wx => ∃ pos : Nat, pos ≤ s.size ∧ s.size - pos ≤ g ∧ Below w.heap.size w wx ∧ wx.heap[w.heap.size]? = some (.stringIter s pos) ∧ Lib.NoAny s.data.toList [13, 10, 0] pos)
  case atStart => exact ⟨0, by omega, by omega, iter_below w s 0, World.iter_heap w s 0, Lib.NoAny.zero _ _⟩
  case round =>
    obtain ⟨pos, hle, hg, hbel, hit, hno⟩ := hrel
    have HN : Aside (Lib.NoAny s.data.toList [13, 10, 0] pos) := hno
    clear hno
    by_cases hlt : pos < s.size
    · cases gk with
      | zero => exact absurd hg (by omega)
      | succ g =>
        obtain ⟨x, hx⟩ : ∃ x : UInt8, s[pos]'hlt = x := ⟨_, rfl⟩
        have hxl : s.data.toList[pos]? = some x := by rw [← hx]; exact Lib.data_getElem? s pos hlt
        have hlt2 : w.heap.size < wr.heap.size := (Array.getElem?_eq_some_iff.1 hit).1
        by_cases hx128 : x.toNat < 128
        · have hnx := fun ty => Lib.run_next_ascii_at (P := Tryz.prog) wr w.heap.size s pos ty hit hlt (by rw [hx]; exact hx128)
          rw [hx] at hnx
          have Hx : Aside (s.data.toList[pos]? = some x) := hxl
          clear hxl hx
          have hcon := Lib.contains_iff_indexByte [13, 10, 0] x
          have hback : ((x.toNat : Int)).toNat.toUInt8 = x := by simp
          have hi156 := hasc (x.toNat : Int) (wr.iterAt w.heap.size s (pos + 1)) (by omega) (by omega)
          rw [hback] at hi156
          have hit' := Lib.iterAt_heap wr w.heap.size s pos (pos + 1) hit
          have hbel' := Lib.below_iterAt hbel (Nat.le_refl _) s (pos + 1)
          cases hin : [(13 : UInt8), 10, 0].contains x
          · rw [hin] at hcon
            have hl : ¬ ((0 : Int) ≤ Lib.indexByte [13, 10, 0] x) := of_decide_eq_false hcon.symm
            clear hcon
            go_wp2_with (go_at_fn 156; refine hi156.mono ?_; rintro e w' ⟨rfl, hw⟩; rw [hw])
            go_roundg g
            case measure => omega
            case rel => exact ⟨pos + 1, by omega, by omega, hbel', hit', HN.out.succ Hx.out hin⟩
          · rw [hin] at hcon
            have hl : (0 : Int) ≤ Lib.indexByte [13, 10, 0] x := of_decide_eq_true hcon.symm
            clear hcon
            go_wp2_with (go_at_fn 156; refine hi156.mono ?_; rintro e w' ⟨rfl, hw⟩; rw [hw])
            go_ret
            exact ⟨by rw [Lib.indexAny_hit HN.out Hx.out hin]; rfl, hbel'⟩
        · have hhi := decode_high s pos hlt (by rw [hx]; omega)
          have hnx := fun ty => Lib.run_next_any_at (P := Tryz.prog) wr w.heap.size s pos ty hit hlt
          have hcont := decode_cont s pos
          have hroom := decode_room s pos hlt
          obtain ⟨d, hd⟩ : ∃ d, Utf8.decode s pos = d := ⟨_, rfl⟩
          rw [hd] at hnx hhi hcont hroom
          obtain ⟨dr, dw⟩ := d
          simp only [] at hnx hhi hcont hroom
          have hi156 := run156_hi (dr : Int) (wr.iterAt w.heap.size s (pos + dw)) (by omega)
          have hit' := Lib.iterAt_heap wr w.heap.size s pos (pos + dw) hit
          have hbel' := Lib.below_iterAt hbel (Nat.le_refl _) s (pos + dw)
          have hskip : ∀ n, n ≤ pos + dw → n ≤ s.size → Lib.NoAny s.data.toList [13, 10, 0] n := fun n hn hns => noAny_far HN.out fun j b hj hjn hb => by
            have hjs : j < s.size := by omega
            have hb' : b = s[j]'hjs := by
              have := Lib.data_getElem? s j hjs
              rw [this] at hb
              exact (Option.some.inj hb).symm
            refine crlf0_no ?_
            by_cases hjp : j = pos
            · subst hjp; rw [hb', hx]; omega
            · have := hcont (j - pos) (by omega) (by omega)
              have hg2 := get_at s j hjs
              rw [show pos + (j - pos) = j + 0 by omega, hg2] at this
              rw [hb']; exact this
          have Hs : Aside (∀ n, n ≤ pos + dw → n ≤ s.size → Lib.NoAny s.data.toList [13, 10, 0] n) := hskip
          clear hskip hcont hd
          go_wp2_with (go_at_fn 156; refine hi156.mono ?_; rintro e w' ⟨rfl, hw⟩)
          go_roundg g
          case measure => omega
          case rel => exact ⟨pos + dw, hroom, by omega, hbel'.trans (hw.mono (by rw [Lib.iterAt_size]; omega)), (hw.block _ (by rw [Lib.iterAt_size]; exact hlt2)).trans hit', Hs.out _ (Nat.le_refl _) hroom⟩
    · obtain rfl : pos = s.size := by omega
      have hnx := fun ty => Lib.run_next_end_at (P := Tryz.prog) wr w.heap.size s s.size ty hit (Nat.lt_irrefl _)
      go_wp2
      go_ret
      exact ⟨by rw [Lib.indexAny_none (by rw [← Lib.size_eq]; exact HN.out)]; rfl, hbel⟩
theorem run147 (s : ByteArray) (w : World) (hs : s.size < 4294967281) :
    Calls Tryz.prog 147 #[.string s, .string ⟨#[13, 10, 0]⟩] w fun e w' => e = .returned (.int .i64 (Lib.indexAny s.data.toList [13, 10, 0])) ∧ Below w.heap.size w w' := by
  by_cases h8 : s.size ≤ 8
  · exact run147_short s w h8
  · have hz : ∀ w, (zeroValue 178).run Tryz.prog w = .ok (.agg (Array.replicate 256 (.bool false))) w := (zero_of_info (n := 256) (by kernel_rfl)).1
    refine (Tryz.strings_IndexAny_long hz s ⟨#[13, 10, 0]⟩ w (by decide) (by omega) hs (by decide) (fun j b hj => ?_)).mono fun e w' hq => ⟨hq.1, ?_⟩
    · have hb : b ∈ [(13 : UInt8), 10, 0] := List.mem_of_getElem? hj
      simp at hb
      rcases hb with rfl | rfl | rfl <;> decide
    · rw [hq.2]
      exact ((Below.refl _ _).alloc (Nat.le_refl _) _).alloc (by simp) _
def F113 : List AV → Tr AV
  | [.str s] => .gd (decide (s.length < 4294967281)) (.leaf (.bool (Lib.containsAny s [13, 10, 0])))
  | _ => .no
theorem run113 (s : ByteArray) (w : World) (hs : s.size < 4294967281) :
    Calls Tryz.prog 113 #[.string s] w fun e w' => e = .returned (.bool (Lib.containsAny s.data.toList [13, 10, 0])) ∧ Below w.heap.size w w' := by
  have e130 : ∀ args w, (callFunc 130 args).run Tryz.prog w = .ok (.enter 130 args) w := enters_of Tryz.func130 (by kernel_rfl) rfl
  have e147 : ∀ args w, (callFunc 147 args).run Tryz.prog w = .ok (.enter 147 args) w := enters_of Tryz.func147 (by kernel_rfl) rfl
  have h147 := run147 s w hs
  have h130 : Calls Tryz.prog 130 #[.string s, .string ⟨#[13, 10, 0]⟩] w fun e w' => e = .returned (.bool (Lib.containsAny s.data.toList [13, 10, 0])) ∧ Below w.heap.size w w' := by
    go_enter Tryz.func130, Tryz.ntmps130
    go_wp2_with (go_at_fn 147; refine h147.mono ?_; rintro e w' ⟨rfl, hw⟩)
    go_ret
    exact ⟨rfl, hw⟩
  go_enter Tryz.func113, Tryz.ntmps113
  go_wp2_with (go_at_fn 130; refine h130.mono ?_; rintro e w' ⟨rfl, hw⟩)
  go_ret
  exact ⟨rfl, hw⟩
theorem ok113 : SumOK Tryz.prog 113 (ofT F113) ∧ SNat (ofT F113) := by
  refine sum_flat (by kernel_rfl) fun ρ w S avs args k r hF hS hv h => ?_
  unfold F113 at h
  split at h
  · rename_i s
    obtain ⟨hc, h⟩ := gd_some h
    obtain ⟨v, vs, rfl, h1, hv⟩ := hv.inv
    obtain rfl := hv.inv_nil
    rw [h1.str_inv]
    exact ⟨_, _, h, rfl, .bool _ _, run113 ⟨s.toArray⟩ w (by rw [Ev.size_mk]; exact of_decide_eq_true hc)⟩
  · cases h
end Go.Proofs.YthdhfmdhjanoaaaGreatDoor


namespace Go.Proofs.YthdhfmdhjanoaaaGreatDoor
open Go.Ev
def isB' (n : Int) : Bool := n == 32 || n == 9
def F102 : List AV → Tr AV
  | [.int .u8 n] => .leaf (.bool (isB' n))
  | _ => .no
theorem ok102 : SumOK Tryz.prog 102 (ofT F102) ∧ SNat (ofT F102) := by
  refine fn0 g0 Tryz.func102 (by kernel_rfl) fun ρ avs k r h => ?_
  unfold F102 at h
  split at h
  · rename_i n
    have hk := h
    refine Eq.trans (b := bif n == (32 : Int) then k (AV.bool true) else k (AV.bool (n == (9 : Int)))) (by kernel_rfl) ?_
    rw [← hk]
    show _ = k (.bool (n == 32 || n == 9))
    cases n == 32 <;> rfl
  · cases h
noncomputable def G99 : Env := { pure := [(113, ofT F113), (102, ofT F102)] }
theorem g99 : GOK Tryz.prog G99 := GOK.also (GOK.also g0 ok102) ok113
def vlB (s : List UInt8) : Bool := !Lib.containsAny s [13, 10, 0] && (s == [] || (!isB' (atI s 0) && !isB' (atI s (s.length - 1))))
def F99 : List AV → Tr AV
  | [.str s] => .gd (decide (s.length < 4294967281)) (.leaf (.bool (vlB s)))
  | _ => .no
theorem ok99 : SumOK Tryz.prog 99 (ofT F99) ∧ SNat (ofT F99) := by
  refine fn0 g99 Tryz.func99 (by kernel_rfl) fun ρ avs k r h => ?_
  unfold F99 at h
  split at h
  · rename_i s
    obtain ⟨hc, hk⟩ := gd_some h
    have hn := of_decide_eq_true hc
    refine Eq.trans (b := bif decide (s.length < (4294967281 : Nat)) then bif !Lib.containsAny s [(13 : UInt8), (10 : UInt8), (0 : UInt8)] then bif s == ([] : List UInt8) then k (AV.bool true) else bif inb (0 : Int) s.length then bif !isB' (↑(s.getD (0 : Nat) (0 : UInt8)).toNat : Int) then bif inb (IntKind.i64.wrap ((↑s.length : Int) - (1 : Int))) s.length then k (AV.bool !isB' (↑(s.getD (IntKind.i64.wrap ((↑s.length : Int) - (1 : Int))).toNat (0 : UInt8)).toNat : Int)) else none else k (AV.bool false) else none else k (AV.bool false) else none) (by kernel_rfl) ?_
    rw [← hk, hc]
    have hv : vlB s = (!Lib.containsAny s [13, 10, 0] && (s == [] || (!isB' (atI s 0) && !isB' (atI s (s.length - 1))))) := rfl
    cases h1 : Lib.containsAny s [13, 10, 0]
    · cases s with
      | nil => rw [hv, h1]; rfl
      | cons c s =>
        have hl : (c :: s).length = s.length + 1 := rfl
        have w1 : IntKind.i64.wrap (((c :: s).length : Int) - 1) = ((s.length : Nat) : Int) := by rw [wrap_small _ (by omega) (by omega)]; omega
        have e0 : inb 0 (c :: s).length = true := inb_true (by omega) (by omega)
        have e1 : inb ((s.length : Nat) : Int) (c :: s).length = true := inb_true (by omega) (by omega)
        have hne : ((c :: s) == ([] : List UInt8)) = false := rfl
        rw [hv, h1, hne]
        simp only [w1, e0, e1, cond_true, cond_false, Bool.not_false, Bool.true_and, Bool.false_or]
        have ez : atI (c :: s) 0 = (((c :: s).getD 0 (0 : UInt8)).toNat : Int) := rfl
        have el : atI (c :: s) ((c :: s).length - 1) = (((c :: s).getD ((s.length : Nat) : Int).toNat (0 : UInt8)).toNat : Int) := by
          rw [Int.toNat_natCast]; rfl
        rw [el, ez]
        cases isB' (((c :: s).getD 0 (0 : UInt8)).toNat : Int) <;> rfl
    · rw [hv, h1]; rfl
  · cases h
noncomputable def G100 : Env := { pure := [(102, ofT F102)] }
theorem g100 : GOK Tryz.prog G100 := GOK.also g0 ok102
noncomputable def b100 : Code := ((Tryz.f100.body.map loopsOf).getD []).headD .skip
def brk (s : List UInt8) (i : Nat) : Bool := isB' (atI s i) && !isB' (atI s (i - 1))
def ptL (s : List UInt8) : Nat → Int → Nat → Int × Nat
  | 0, b, i => (b, i)
  | n + 1, b, i => bif brk s i then (bif decide (b > 0) && decide ((i : Int) > 78) then (b, i) else ptL s n i (i + 1)) else ptL s n b (i + 1)
theorem ptL_step (s : List UInt8) (n : Nat) (b : Int) (i : Nat) : ptL s (n + 1) b i = bif brk s i then (bif decide (b > 0) && decide ((i : Int) > 78) then (b, i) else ptL s n i (i + 1)) else ptL s n b (i + 1) := rfl
def L100 : List AV → List (Option Row) → Tr LOut
  | [.str s, .int .i64 b, .int .i64 i], [] =>
    .gd (cnt s.length i s.length && decide (1 ≤ i)) (.leaf (.exit 0, [.str s, .int .i64 (ptL s (s.length - i.toNat) b i.toNat).1, .int .i64 (ptL s (s.length - i.toNat) b i.toNat).2], []))
  | _, _ => .no
def l100 : Ev.Loop := ⟨{ len := 35, slots := [0, 5, 6] }, ofL L100⟩
def μ100 (vs : List AV) (_ : List (Option Row)) : Nat := match vs with
  | [.str s, _, .int _ i] => ((s.length : Int) - i).toNat
  | _ => 0
theorem loop100 : LoopOK Tryz.prog G100 [(3, l100)] b100 l100 := by
  refine loopT g100.natOK rfl (KOK.nil (by kernel_rfl)) μ100 (fun ρ vs rs k r h => ?_)
  unfold L100 at h
  split at h
  · rename_i s b i
    obtain ⟨hc, hk⟩ := gd_some h
    simp only [Bool.and_eq_true, decide_eq_true_eq] at hc
    obtain ⟨hc, h1⟩ := hc
    obtain ⟨_, hs, j, rfl, hj⟩ := cnt_spec hc
    rw [Int.toNat_natCast] at hk
    refine Eq.trans (b := bif decide ((↑j : Int) < (↑s.length : Int)) then bif inb (↑j : Int) s.length then bif !isB' (↑(s.getD j (0 : UInt8)).toNat : Int) then bif decide (((↑s.length : Int) - IntKind.i64.wrap ((↑j : Int) + (1 : Int))).toNat < ((↑s.length : Int) - (↑j : Int)).toNat) then bif cnt (↑s.length : Int) (IntKind.i64.wrap ((↑j : Int) + (1 : Int))) s.length && decide ((1 : Int) ≤ IntKind.i64.wrap ((↑j : Int) + (1 : Int))) then k (Ex.exit (0 : Nat)) [AV.str s, AV.int IntKind.i64 (ptL s (s.length - (IntKind.i64.wrap ((↑j : Int) + (1 : Int))).toNat) b (IntKind.i64.wrap ((↑j : Int) + (1 : Int))).toNat).fst, AV.int IntKind.i64 (↑(ptL s (s.length - (IntKind.i64.wrap ((↑j : Int) + (1 : Int))).toNat) b (IntKind.i64.wrap ((↑j : Int) + (1 : Int))).toNat).snd : Int)] [] else none else none else bif inb (IntKind.i64.wrap ((↑j : Int) - (1 : Int))) s.length then bif isB' (↑(s.getD (IntKind.i64.wrap ((↑j : Int) - (1 : Int))).toNat (0 : UInt8)).toNat : Int) then bif decide (((↑s.length : Int) - IntKind.i64.wrap ((↑j : Int) + (1 : Int))).toNat < ((↑s.length : Int) - (↑j : Int)).toNat) then bif cnt (↑s.length : Int) (IntKind.i64.wrap ((↑j : Int) + (1 : Int))) s.length && decide ((1 : Int) ≤ IntKind.i64.wrap ((↑j : Int) + (1 : Int))) then k (Ex.exit (0 : Nat)) [AV.str s, AV.int IntKind.i64 (ptL s (s.length - (IntKind.i64.wrap ((↑j : Int) + (1 : Int))).toNat) b (IntKind.i64.wrap ((↑j : Int) + (1 : Int))).toNat).fst, AV.int IntKind.i64 (↑(ptL s (s.length - (IntKind.i64.wrap ((↑j : Int) + (1 : Int))).toNat) b (IntKind.i64.wrap ((↑j : Int) + (1 : Int))).toNat).snd : Int)] [] else none else none else bif decide (b > (0 : Int)) then bif decide ((↑j : Int) > (78 : Int)) then k (Ex.exit (0 : Nat)) [AV.str s, AV.int IntKind.i64 b, AV.int IntKind.i64 (↑j : Int)] [] else bif decide (((↑s.length : Int) - IntKind.i64.wrap ((↑j : Int) + (1 : Int))).toNat < ((↑s.length : Int) - (↑j : Int)).toNat) then bif cnt (↑s.length : Int) (IntKind.i64.wrap ((↑j : Int) + (1 : Int))) s.length && decide ((1 : Int) ≤ IntKind.i64.wrap ((↑j : Int) + (1 : Int))) then k (Ex.exit (0 : Nat)) [AV.str s, AV.int IntKind.i64 (ptL s (s.length - (IntKind.i64.wrap ((↑j : Int) + (1 : Int))).toNat) (↑j : Int) (IntKind.i64.wrap ((↑j : Int) + (1 : Int))).toNat).fst, AV.int IntKind.i64 (↑(ptL s (s.length - (IntKind.i64.wrap ((↑j : Int) + (1 : Int))).toNat) (↑j : Int) (IntKind.i64.wrap ((↑j : Int) + (1 : Int))).toNat).snd : Int)] [] else none else none else bif decide (((↑s.length : Int) - IntKind.i64.wrap ((↑j : Int) + (1 : Int))).toNat < ((↑s.length : Int) - (↑j : Int)).toNat) then bif cnt (↑s.length : Int) (IntKind.i64.wrap ((↑j : Int) + (1 : Int))) s.length && decide ((1 : Int) ≤ IntKind.i64.wrap ((↑j : Int) + (1 : Int))) then k (Ex.exit (0 : Nat)) [AV.str s, AV.int IntKind.i64 (ptL s (s.length - (IntKind.i64.wrap ((↑j : Int) + (1 : Int))).toNat) (↑j : Int) (IntKind.i64.wrap ((↑j : Int) + (1 : Int))).toNat).fst, AV.int IntKind.i64 (↑(ptL s (s.length - (IntKind.i64.wrap ((↑j : Int) + (1 : Int))).toNat) (↑j : Int) (IntKind.i64.wrap ((↑j : Int) + (1 : Int))).toNat).snd : Int)] [] else none else none else none else none else k (Ex.exit (0 : Nat)) [AV.str s, AV.int IntKind.i64 b, AV.int IntKind.i64 (↑j : Int)] []) (by kernel_rfl) ?_
    rw [← hk]
    by_cases hlt : j < s.length
    · obtain ⟨e1, e2, e3, e4, e5⟩ := cnt_facts hlt hs
      have w1 : IntKind.i64.wrap ((j : Int) - 1) = ((j - 1 : Nat) : Int) := by rw [wrap_small _ (by omega) (by omega)]; omega
      have e6 : inb ((j - 1 : Nat) : Int) s.length = true := inb_true (by omega) (by omega)
      have e7 : decide ((1 : Int) ≤ ((j + 1 : Nat) : Int)) = true := decide_eq_true (by omega)
      have hx : ∀ j, ((s.getD j (0 : UInt8)).toNat : Int) = atI s j := fun j => rfl
      rw [show s.length - j = (s.length - (j + 1)) + 1 by omega]
      show _ = k (.exit 0) [.str s, .int .i64 (ptL s (s.length - (j + 1) + 1) b j).1, .int .i64 (ptL s (s.length - (j + 1) + 1) b j).2] []
      rw [ptL_step]
      unfold brk
      simp only [Int.toNat_natCast, hx, w1, e1, e2, e3, e4, e5, e6, e7, cond_true, Bool.and_true]
      cases h2 : isB' (atI s j) <;> cases h3 : isB' (atI s (j - 1)) <;> simp only [Bool.not_true, Bool.not_false, Bool.and_true, Bool.and_false, cond_true, cond_false] <;> try rfl
      cases h4 : decide (b > 0) <;> cases h5 : decide ((j : Int) > 78) <;> rfl
    · obtain rfl : j = s.length := by omega
      rw [decide_eq_false (by omega), Nat.sub_self]
      rfl
  · cases h
def mx1 (i : Int) : Int := if 1 > i then 1 else i
def pt (s : List UInt8) (i : Int) : Int := (ptL s (s.length - (mx1 i).toNat) 0 (mx1 i).toNat).1
def F100 : List AV → Tr AV
  | [.str s, .int .i64 i] => .gd (small s.length && decide (mx1 i ≤ s.length)) (.leaf (.int .i64 (pt s i)))
  | _ => .no
theorem mx1_pos (i : Int) : 1 ≤ mx1 i := by unfold mx1; split <;> omega
theorem ok100 : SumOK Tryz.prog 100 (ofT F100) ∧ SNat (ofT F100) := by
  refine fn1 (K := [(3, l100)]) (b := b100) (l := l100) g100 Tryz.func100 (by kernel_rfl) (by kernel_rfl) loop100 fun ρ avs k r h => ?_
  unfold F100 at h
  split at h
  · rename_i s i
    obtain ⟨hc, hk⟩ := gd_some h
    simp only [Bool.and_eq_true, decide_eq_true_eq] at hc
    have hs : s.length ≤ 9223372036854775807 := of_decide_eq_true hc.1
    have hm := mx1_pos i
    refine Eq.trans (b := bif cnt (↑s.length : Int) (if (1 : Int) > i then (1 : Int) else i) s.length && decide ((1 : Int) ≤ if (1 : Int) > i then (1 : Int) else i) then k (AV.int IntKind.i64 (ptL s (s.length - (if (1 : Int) > i then (1 : Int) else i).toNat) (0 : Int) (if (1 : Int) > i then (1 : Int) else i).toNat).fst) else none) (by kernel_rfl) ?_
    rw [← hk]
    have hcn : (cnt s.length (mx1 i) s.length && decide (1 ≤ mx1 i)) = true := and_t (and_tt (decide_eq_true rfl) (and_tt (decide_eq_true (by omega)) (and_tt (decide_eq_true hc.2) (decide_eq_true hs)))) (decide_eq_true hm)
    exact cond_t hcn
  · cases h
theorem ptL_r (s : List UInt8) : ∀ (n : Nat) (b : Int) (i : Nat), i + n ≤ s.length → 0 ≤ b → b < s.length ∨ b = 0 → 0 ≤ (ptL s n b i).1 ∧ ((ptL s n b i).1 < s.length ∨ (ptL s n b i).1 = 0)
  | 0, b, i, _, h0, h1 => ⟨h0, h1⟩
  | n + 1, b, i, h, h0, h1 => by
    rw [ptL_step]
    cases brk s i
    · exact ptL_r s n b (i + 1) (by omega) h0 h1
    · cases decide (b > 0) && decide ((i : Int) > 78)
      · exact ptL_r s n i (i + 1) (by omega) (by omega) (.inl (by omega))
      · exact ⟨h0, h1⟩
theorem pt_r (s : List UInt8) (i : Int) : 0 ≤ pt s i ∧ (pt s i < s.length ∨ pt s i = 0) := by
  unfold pt
  by_cases h : (mx1 i).toNat ≤ s.length
  · exact ptL_r s _ 0 _ (by omega) (Int.le_refl _) (.inr rfl)
  · rw [show s.length - (mx1 i).toNat = 0 by omega]
    exact ⟨Int.le_refl _, .inr rfl⟩
noncomputable def G79 : Env := { pure := [(98, ofT F98), (99, ofT F99), (100, ofT F100), (43, evF Tryz.prog G0 [] Tryz.f43), (47, evF Tryz.prog G0 [] Tryz.f47)] }
theorem g79 : GOK Tryz.prog G79 := GOK.also (GOK.also (GOK.also (GOK.also (GOK.also g0 (inl g0 Tryz.func47 (by kernel_rfl))) (inl g0 Tryz.func43 (by kernel_rfl))) ok100) ok99) ok98
noncomputable def b79 : Code := ((Tryz.f79.body.map loopsOf).getD []).headD .skip
noncomputable def c79 : Code := (((Tryz.f79.body.map loopsOf).getD []).tail).headD .skip
def fl : Nat → List UInt8 → Int → List (List UInt8) × List UInt8 × Int
  | 0, s, f => ([], s, f)
  | n + 1, s, f => bif decide ((s.length : Int) > 78) then (bif pt s f == 0 then ([], s, f) else (s.take (pt s f).toNat :: (fl n (s.drop (pt s f).toNat) 0).1, (fl n (s.drop (pt s f).toNat) 0).2)) else ([], s, f)
def strs (l : List (List UInt8)) : List AV := l.map AV.str
theorem by9 : Tryz.prog.bytesOf 9 ≤ 1000 := of_decide_eq_true (by kernel_rfl)
def L79 : List AV → List (Option Row) → Tr LOut
  | [.ptr 1 0, .str s, .int .i64 f, .own 900], [some (.box false [.int .i64 0, .int .i64 0]), some (.arr false .str e es none)] =>
    .gd (decide (s.length ≤ 100000 ∧ es.length + s.length ≤ 100000 ∧ f ≤ s.length ∧ e = 9)) (.leaf (.exit 1, [.ptr 1 0, .str (fl s.length s f).2.1, .int .i64 (fl s.length s f).2.2, .own 900], [some (.box false [.int .i64 0, .int .i64 0]), some (.arr false .str e (es ++ strs (fl s.length s f).1) none)]))
  | _, _ => .no
def l79 : Ev.Loop := ⟨{ len := 70, slots := [5, 6, 7, 8], rows := [1, 900], homes := [(8, 900, 9)] }, ofL L79⟩
def μ79 (vs : List AV) (_ : List (Option Row)) : Nat := match vs with
  | [_, .str s, _, _] => s.length
  | _ => 0
theorem fl_step (n : Nat) (s : List UInt8) (f : Int) : fl (n + 1) s f = bif decide ((s.length : Int) > 78) then (bif pt s f == 0 then ([], s, f) else (s.take (pt s f).toNat :: (fl n (s.drop (pt s f).toNat) 0).1, (fl n (s.drop (pt s f).toNat) 0).2)) else ([], s, f) := rfl
theorem fl_fuel : ∀ (n m : Nat) (s : List UInt8) (f : Int), s.length ≤ n → s.length ≤ m → fl n s f = fl m s f
  | 0, m, s, f, hn, _ => by
    have : s = [] := List.eq_nil_of_length_eq_zero (by omega)
    subst this
    cases m <;> rfl
  | n + 1, 0, s, f, _, hm => by
    have : s = [] := List.eq_nil_of_length_eq_zero (by omega)
    subst this
    rfl
  | n + 1, m + 1, s, f, hn, hm => by
    rw [fl_step, fl_step]
    cases h0 : pt s f == 0
    · have hr := pt_r s f
      have hne : pt s f ≠ 0 := by simpa using h0
      rw [fl_fuel n m _ 0 (by rw [List.length_drop]; omega) (by rw [List.length_drop]; omega)]
    · rfl
theorem loop79 : LoopOK Tryz.prog G79 [(9, l79)] b79 l79 := by
  refine loopT g79.natOK rfl (KOK.nil (by kernel_rfl)) μ79 (fun ρ vs rs k r h => ?_)
  unfold L79 at h
  split at h
  · rename_i s f e es
    obtain ⟨hc, hk⟩ := gd_some h
    obtain ⟨c1, c2, c3, rfl⟩ := of_decide_eq_true hc
    refine Eq.trans (b := bif decide ((↑s.length : Int) > (78 : Int)) then bif small s.length && decide (mx1 f ≤ (↑s.length : Int)) then bif pt s f == (0 : Int) then k (Ex.exit (1 : Nat)) [AV.ptr (1 : Nat) (0 : Nat), AV.str s, AV.int IntKind.i64 f, AV.own (900 : Nat)] [some (Row.box false [AV.int IntKind.i64 (0 : Int), AV.int IntKind.i64 (0 : Int)]), some (Row.arr false Sh.str (9 : Nat) es none)] else bif slb (0 : Int) (pt s f) s.length then bif roomB (es.length + [AV.str (List.take ((pt s f).toNat - Int.toNat (0 : Int)) (List.drop (0 : Nat) s))].length) (Tryz.prog.bytesOf (9 : Nat)) then bif slb (pt s f) (↑s.length : Int) s.length then bif decide ((List.take ((↑s.length : Int).toNat - (pt s f).toNat) (List.drop (pt s f).toNat s)).length < s.length) then bif decide ((List.take ((↑s.length : Int).toNat - (pt s f).toNat) (List.drop (pt s f).toNat s)).length ≤ (100000 : Nat) ∧ (es ++ [AV.str (List.take ((pt s f).toNat - Int.toNat (0 : Int)) (List.drop (0 : Nat) s))]).length + (List.take ((↑s.length : Int).toNat - (pt s f).toNat) (List.drop (pt s f).toNat s)).length ≤ (100000 : Nat) ∧ (0 : Int) ≤ (↑(List.take ((↑s.length : Int).toNat - (pt s f).toNat) (List.drop (pt s f).toNat s)).length : Int) ∧ (9 : Nat) = (9 : TypeId)) then k (Ex.exit (1 : Nat)) [AV.ptr (1 : Nat) (0 : Nat), AV.str (fl (List.take ((↑s.length : Int).toNat - (pt s f).toNat) (List.drop (pt s f).toNat s)).length (List.take ((↑s.length : Int).toNat - (pt s f).toNat) (List.drop (pt s f).toNat s)) (0 : Int)).snd.fst, AV.int IntKind.i64 (fl (List.take ((↑s.length : Int).toNat - (pt s f).toNat) (List.drop (pt s f).toNat s)).length (List.take ((↑s.length : Int).toNat - (pt s f).toNat) (List.drop (pt s f).toNat s)) (0 : Int)).snd.snd, AV.own (900 : Nat)] [some (Row.box false [AV.int IntKind.i64 (0 : Int), AV.int IntKind.i64 (0 : Int)]), some (Row.arr false Sh.str (9 : Nat) (es ++ [AV.str (List.take ((pt s f).toNat - Int.toNat (0 : Int)) (List.drop (0 : Nat) s))] ++ strs (fl (List.take ((↑s.length : Int).toNat - (pt s f).toNat) (List.drop (pt s f).toNat s)).length (List.take ((↑s.length : Int).toNat - (pt s f).toNat) (List.drop (pt s f).toNat s)) (0 : Int)).fst) none)] else none else none else none else none else none else none else k (Ex.exit (1 : Nat)) [AV.ptr (1 : Nat) (0 : Nat), AV.str s, AV.int IntKind.i64 f, AV.own (900 : Nat)] [some (Row.box false [AV.int IntKind.i64 (0 : Int), AV.int IntKind.i64 (0 : Int)]), some (Row.arr false Sh.str (9 : Nat) es none)]) (by kernel_rfl) ?_
    rw [← hk]
    by_cases h78 : (s.length : Int) > 78
    · have hm : mx1 f ≤ s.length := by unfold mx1; split <;> omega
      have hsm : (small s.length && decide (mx1 f ≤ (s.length : Int))) = true := and_t (decide_eq_true (by omega)) (decide_eq_true hm)
      obtain ⟨p0, p1⟩ := pt_r s f
      rw [decide_eq_true h78, hsm, cond_true, cond_true]
      rw [fl_fuel s.length (s.length - 1 + 1) s f (Nat.le_refl _) (by omega), fl_step, decide_eq_true h78, cond_true]
      cases hp : pt s f == 0
      · have hne : pt s f ≠ 0 := by simpa using hp
        rw [cond_false, cond_false]
        generalize hq : (pt s f).toNat = q
        have hpq : pt s f = (q : Int) := by omega
        rw [hpq]
        have t1 : List.take (q - Int.toNat 0) (List.drop 0 s) = s.take q := rfl
        have t2 : List.take ((s.length : Int).toNat - q) (s.drop q) = s.drop q := List.take_of_length_le (by rw [List.length_drop]; omega)
        have hd : (s.drop q).length = s.length - q := List.length_drop
        simp only [t1, t2]
        rw [fl_fuel (s.drop q).length (s.length - 1) _ 0 (Nat.le_refl _) (by omega)]
        have r9 : ∀ x : AV, roomB (es.length + [x].length) (Tryz.prog.bytesOf 9) = true := fun x => roomB_small (by simp; omega) by9
        have hl : ∀ x : AV, (es ++ [x]).length = es.length + 1 := fun x => by rw [List.length_append]; rfl
        refine Eq.trans (cond_t (slb_true (by omega) (by omega) (by omega))) (Eq.trans (cond_t (r9 _)) (Eq.trans (cond_t (slb_true (by omega) (by omega) (by omega))) (Eq.trans (cond_t (decide_eq_true (by omega))) (Eq.trans (cond_t (decide_eq_true ⟨by omega, by rw [hl]; omega, by omega, trivial⟩)) ?_))))
        rw [List.append_assoc]
        rfl
      · show k _ _ _ = k _ _ [_, some (.arr false .str 9 (es ++ []) none)]
        rw [List.append_nil]
        rfl
    · rw [decide_eq_false h78]
      have : fl s.length s f = ([], s, f) := by
        cases hl : s.length with
        | zero => rfl
        | succ m => rw [fl_step, decide_eq_false h78]; rfl
      rw [this]
      show k _ _ _ = k _ _ [_, some (.arr false .str 9 (es ++ []) none)]
      rw [List.append_nil]
  · cases h
def sE (e : AV) : List UInt8 := (e.cells.headD .unk).toStr
def isS (e : AV) : Bool := match e with | .str _ => true | _ => false
theorem sE_strs {es : List AV} (h : es.all isS = true) {j : Nat} (hj : j < es.length) : es.getD j .unk = .str (sE (es.getD j .unk)) := by
  have := List.all_eq_true.1 h (es.getD j .unk) (by rw [getD_eq hj]; exact List.getElem_mem hj)
  generalize es.getD j .unk = e at this
  cases e <;> simp [isS] at this
  rfl
theorem strs_all (l : List (List UInt8)) : (strs l).all isS = true := List.all_eq_true.2 fun x hx => by
  obtain ⟨b, _, rfl⟩ := List.mem_map.1 hx; rfl
def longE (es : List AV) (i : Nat) : Bool := decide (((sE (es.getD i .unk)).length : Int) > 998)
def L79c : List AV → List (Option Row) → Tr LOut
  | [.unk, .ptr 1 0, .own 899, .own 899, .int .i64 n, .int .i64 i], [some (.box false [.int .i64 0, .int .i64 0]), some (.arr false .str e es none)] =>
    .gd (cnt n i es.length && es.all isS) (sT (longE es) es.length (fun q => .leaf (.ret, [.slz .str, .ptr 1 0, .own 899, .own 899, .int .i64 n, .int .i64 (q : Nat)], [some (.box false [.int .i64 1, .int .i64 (q : Nat)]), some (.arr false .str e es none)])) (.leaf (.exit 3, [.unk, .ptr 1 0, .own 899, .own 899, .int .i64 n, .int .i64 es.length], [some (.box false [.int .i64 0, .int .i64 0]), some (.arr false .str e es none)])) i.toNat)
  | _, _ => .no
def l79c : Ev.Loop := ⟨{ len := 70, slots := [4, 5, 8, 55, 56, 57], rows := [1, 899] }, ofL L79c⟩
def μ79c (vs : List AV) (_ : List (Option Row)) : Nat := match vs with
  | [_, _, _, _, .int _ n, .int _ i] => (n - i).toNat
  | _ => 0
theorem loop79c : LoopOK Tryz.prog G79 [(16, l79c)] c79 l79c := by
  refine loopT g79.natOK rfl (KOK.nil (by kernel_rfl)) μ79c (fun ρ vs rs k r h => ?_)
  unfold L79c at h
  split at h
  · rename_i n i e es
    obtain ⟨hc, hk⟩ := gd_some h
    simp only [Bool.and_eq_true] at hc
    obtain ⟨hc, hall⟩ := hc
    obtain ⟨rfl, hs, j, rfl, hj⟩ := cnt_spec hc
    rw [Int.toNat_natCast] at hk
    refine Eq.trans (b := bif decide ((↑j : Int) < (↑es.length : Int)) then bif inb (↑j : Int) es.length then bif decide (j < es.length) then bif decide ((↑(sE (es.getD j AV.unk)).length : Int) > (998 : Int)) then k Ex.ret [AV.slz Sh.str, AV.ptr (1 : Nat) (0 : Nat), AV.own (899 : Nat), AV.own (899 : Nat), AV.int IntKind.i64 (↑es.length : Int), AV.int IntKind.i64 (↑j : Int)] [some (Row.box false [AV.int IntKind.i64 (1 : Int), AV.int IntKind.i64 (↑j : Int)]), some (Row.arr false Sh.str e es none)] else bif decide (((↑es.length : Int) - IntKind.i64.wrap ((↑j : Int) + (1 : Int))).toNat < ((↑es.length : Int) - (↑j : Int)).toNat) then bif cnt (↑es.length : Int) (IntKind.i64.wrap ((↑j : Int) + (1 : Int))) es.length && es.all isS then bif (findN (longE es) es.length (IntKind.i64.wrap ((↑j : Int) + (1 : Int))).toNat).isSome then k Ex.ret [AV.slz Sh.str, AV.ptr (1 : Nat) (0 : Nat), AV.own (899 : Nat), AV.own (899 : Nat), AV.int IntKind.i64 (↑es.length : Int), AV.int IntKind.i64 (↑((findN (longE es) es.length (IntKind.i64.wrap ((↑j : Int) + (1 : Int))).toNat).getD (0 : Nat)) : Int)] [some (Row.box false [AV.int IntKind.i64 (1 : Int), AV.int IntKind.i64 (↑((findN (longE es) es.length (IntKind.i64.wrap ((↑j : Int) + (1 : Int))).toNat).getD (0 : Nat)) : Int)]), some (Row.arr false Sh.str e es none)] else k (Ex.exit (3 : Nat)) [AV.unk, AV.ptr (1 : Nat) (0 : Nat), AV.own (899 : Nat), AV.own (899 : Nat), AV.int IntKind.i64 (↑es.length : Int), AV.int IntKind.i64 (↑es.length : Int)] [some (Row.box false [AV.int IntKind.i64 (0 : Int), AV.int IntKind.i64 (0 : Int)]), some (Row.arr false Sh.str e es none)] else none else none else none else none else k (Ex.exit (3 : Nat)) [AV.unk, AV.ptr (1 : Nat) (0 : Nat), AV.own (899 : Nat), AV.own (899 : Nat), AV.int IntKind.i64 (↑es.length : Int), AV.int IntKind.i64 (↑j : Int)] [some (Row.box false [AV.int IntKind.i64 (0 : Int), AV.int IntKind.i64 (0 : Int)]), some (Row.arr false Sh.str e es none)]) (by kernel_rfl) ?_
    rw [← hk]
    by_cases hlt : j < es.length
    · obtain ⟨e1, e2, e3, e4, e5⟩ := cnt_facts hlt hs
      rw [sT_step _ _ _ _ _ hlt]
      have hw : longE es j = decide (((sE (es.getD j .unk)).length : Int) > 998) := rfl
      have e6 : decide (j < es.length) = true := decide_eq_true hlt
      rw [hw]
      simp only [e1, e2, e3, e4, e5, e6, hall, Bool.and_true, cond_true, Int.toNat_natCast]
      rfl
    · obtain rfl : j = es.length := by omega
      rw [decide_eq_false (by omega), sT_end]
      rfl
  · cases h
def flL (n v : List UInt8) : List (List UInt8) := (fl (n ++ [58, 32] ++ v).length (n ++ [58, 32] ++ v) ((n.length : Int) + 2)).1 ++ [(fl (n ++ [58, 32] ++ v).length (n ++ [58, 32] ++ v) ((n.length : Int) + 2)).2.1]
def longL (l : List (List UInt8)) (i : Nat) : Bool := decide (((l.getD i []).length : Int) > 998)
def fdL (n v : List UInt8) : List (List UInt8) := bif !fnB n then [] else bif decide ((v.length : Int) > 4000) then [] else bif !vlB v then [] else bif (findN (longL (flL n v)) (flL n v).length 0).isSome then [] else flL n v
def fdC (n v : List UInt8) : Int := bif !fnB n then 10 else bif decide ((v.length : Int) > 4000) then 1 else bif !vlB v then 11 else bif (findN (longL (flL n v)) (flL n v).length 0).isSome then 1 else 0
def fdI (n v : List UInt8) : Int := bif !fnB n then -1 else bif decide ((v.length : Int) > 4000) then -1 else bif !vlB v then -1 else bif (findN (longL (flL n v)) (flL n v).length 0).isSome then (((findN (longL (flL n v)) (flL n v).length 0).getD 0 : Nat) : Int) else 0
theorem strs_getD (l : List (List UInt8)) (i : Nat) : sE ((strs l).getD i .unk) = l.getD i [] := by
  unfold strs
  rw [List.getD_eq_getElem?_getD, List.getElem?_map, List.getD_eq_getElem?_getD]
  cases l[i]? <;> rfl
theorem longE_strs (l : List (List UInt8)) : longE (strs l) = longL l := by
  funext i
  unfold longE longL
  rw [strs_getD]
def F79 : List AV → Tr AV
  | [.str n, .str v] => .gd (small n.length && small v.length) (.leaf (.tup [.slv .str (strs (fdL n v)), .agg [.int .i64 (fdC n v), .int .i64 (fdI n v)]]))
  | _ => .no
theorem fl_le : ∀ (n : Nat) (s : List UInt8) (f : Int), (fl n s f).1.length + (fl n s f).2.1.length ≤ s.length
  | 0, s, f => by simp [fl]
  | n + 1, s, f => by
    rw [fl_step]
    cases h78 : decide ((s.length : Int) > 78)
    · simp
    · cases hp : pt s f == 0
      · have hne : pt s f ≠ 0 := by simpa using hp
        obtain ⟨p0, p1⟩ := pt_r s f
        have ih := fl_le n (s.drop (pt s f).toNat) 0
        rw [List.length_drop] at ih
        simp only [cond_true, cond_false, List.length_cons]
        omega
      · simp
theorem ok79 : SumOK Tryz.prog 79 (ofT F79) ∧ SNat (ofT F79) := by
  refine fnT (K := [(9, l79), (16, l79c)]) g79 Tryz.func79 (bs := [b79, c79]) (by kernel_rfl) (fun b hb => ?_) fun ρ avs k r h => ?_
  · simp at hb
    rcases hb with rfl | rfl
    · exact ⟨l79, by kernel_rfl, loop79⟩
    · exact ⟨l79c, by kernel_rfl, loop79c⟩
  unfold F79 at h
  split at h
  · rename_i n v
    obtain ⟨hc, hk⟩ := gd_some h
    simp only [Bool.and_eq_true] at hc
    have hn : n.length ≤ 9223372036854775807 := of_decide_eq_true hc.1
    have hv : v.length ≤ 9223372036854775807 := of_decide_eq_true hc.2
    refine Eq.trans (b := bif small n.length then bif !fnB n then k (AV.tup [AV.slv Sh.str [], AV.agg [AV.int IntKind.i64 (10 : Int), AV.int IntKind.i64 (-1 : Int)]]) else bif decide ((↑v.length : Int) > (4000 : Int)) then k (AV.tup [AV.slv Sh.str [], AV.agg [AV.int IntKind.i64 (1 : Int), AV.int IntKind.i64 (-1 : Int)]]) else bif decide (v.length < (4294967281 : Nat)) then bif !vlB v then k (AV.tup [AV.slv Sh.str [], AV.agg [AV.int IntKind.i64 (11 : Int), AV.int IntKind.i64 (-1 : Int)]]) else bif lenB (n.length + ([58, 32] : List UInt8).length) then bif lenB ((n ++ ([58, 32] : List UInt8)).length + v.length) then bif decide ((n ++ ([58, 32] : List UInt8) ++ v).length ≤ (100000 : Nat) ∧ ([] : List AV).length + (n ++ ([58, 32] : List UInt8) ++ v).length ≤ (100000 : Nat) ∧ IntKind.i64.wrap ((↑n.length : Int) + (2 : Int)) ≤ (↑(n ++ ([58, 32] : List UInt8) ++ v).length : Int) ∧ ((8 : Nat), (900 : Nat), (9 : TypeId)).snd.snd = (9 : TypeId)) then bif roomB (([] ++ strs (fl (n ++ ([58, 32] : List UInt8) ++ v).length (n ++ ([58, 32] : List UInt8) ++ v) (IntKind.i64.wrap ((↑n.length : Int) + (2 : Int)))).fst).length + [AV.str (fl (n ++ ([58, 32] : List UInt8) ++ v).length (n ++ ([58, 32] : List UInt8) ++ v) (IntKind.i64.wrap ((↑n.length : Int) + (2 : Int)))).snd.fst].length) (Tryz.prog.bytesOf (9 : Nat)) then bif cnt (↑([] ++ strs (fl (n ++ ([58, 32] : List UInt8) ++ v).length (n ++ ([58, 32] : List UInt8) ++ v) (IntKind.i64.wrap ((↑n.length : Int) + (2 : Int)))).fst ++ [AV.str (fl (n ++ ([58, 32] : List UInt8) ++ v).length (n ++ ([58, 32] : List UInt8) ++ v) (IntKind.i64.wrap ((↑n.length : Int) + (2 : Int)))).snd.fst]).length : Int) (0 : Int) ([] ++ strs (fl (n ++ ([58, 32] : List UInt8) ++ v).length (n ++ ([58, 32] : List UInt8) ++ v) (IntKind.i64.wrap ((↑n.length : Int) + (2 : Int)))).fst ++ [AV.str (fl (n ++ ([58, 32] : List UInt8) ++ v).length (n ++ ([58, 32] : List UInt8) ++ v) (IntKind.i64.wrap ((↑n.length : Int) + (2 : Int)))).snd.fst]).length && ([] ++ strs (fl (n ++ ([58, 32] : List UInt8) ++ v).length (n ++ ([58, 32] : List UInt8) ++ v) (IntKind.i64.wrap ((↑n.length : Int) + (2 : Int)))).fst ++ [AV.str (fl (n ++ ([58, 32] : List UInt8) ++ v).length (n ++ ([58, 32] : List UInt8) ++ v) (IntKind.i64.wrap ((↑n.length : Int) + (2 : Int)))).snd.fst]).all isS then bif (findN (longE ([] ++ strs (fl (n ++ ([58, 32] : List UInt8) ++ v).length (n ++ ([58, 32] : List UInt8) ++ v) (IntKind.i64.wrap ((↑n.length : Int) + (2 : Int)))).fst ++ [AV.str (fl (n ++ ([58, 32] : List UInt8) ++ v).length (n ++ ([58, 32] : List UInt8) ++ v) (IntKind.i64.wrap ((↑n.length : Int) + (2 : Int)))).snd.fst])) ([] ++ strs (fl (n ++ ([58, 32] : List UInt8) ++ v).length (n ++ ([58, 32] : List UInt8) ++ v) (IntKind.i64.wrap ((↑n.length : Int) + (2 : Int)))).fst ++ [AV.str (fl (n ++ ([58, 32] : List UInt8) ++ v).length (n ++ ([58, 32] : List UInt8) ++ v) (IntKind.i64.wrap ((↑n.length : Int) + (2 : Int)))).snd.fst]).length (0 : Nat)).isSome then k (AV.tup [AV.slv Sh.str [], AV.agg [AV.int IntKind.i64 (1 : Int), AV.int IntKind.i64 (↑((findN (longE ([] ++ strs (fl (n ++ ([58, 32] : List UInt8) ++ v).length (n ++ ([58, 32] : List UInt8) ++ v) (IntKind.i64.wrap ((↑n.length : Int) + (2 : Int)))).fst ++ [AV.str (fl (n ++ ([58, 32] : List UInt8) ++ v).length (n ++ ([58, 32] : List UInt8) ++ v) (IntKind.i64.wrap ((↑n.length : Int) + (2 : Int)))).snd.fst])) ([] ++ strs (fl (n ++ ([58, 32] : List UInt8) ++ v).length (n ++ ([58, 32] : List UInt8) ++ v) (IntKind.i64.wrap ((↑n.length : Int) + (2 : Int)))).fst ++ [AV.str (fl (n ++ ([58, 32] : List UInt8) ++ v).length (n ++ ([58, 32] : List UInt8) ++ v) (IntKind.i64.wrap ((↑n.length : Int) + (2 : Int)))).snd.fst]).length (0 : Nat)).getD (0 : Nat)) : Int)]]) else k (AV.tup [AV.slv Sh.str ([] ++ strs (fl (n ++ ([58, 32] : List UInt8) ++ v).length (n ++ ([58, 32] : List UInt8) ++ v) (IntKind.i64.wrap ((↑n.length : Int) + (2 : Int)))).fst ++ [AV.str (fl (n ++ ([58, 32] : List UInt8) ++ v).length (n ++ ([58, 32] : List UInt8) ++ v) (IntKind.i64.wrap ((↑n.length : Int) + (2 : Int)))).snd.fst]), AV.agg [AV.int IntKind.i64 (0 : Int), AV.int IntKind.i64 (0 : Int)]]) else none else none else none else none else none else none else none) (by kernel_rfl) ?_
    rw [← hk]
    unfold fdL fdC fdI
    rw [hc.1, cond_true]
    cases h1 : fnB n
    · rfl
    · cases h4 : decide ((v.length : Int) > 4000)
      · have hv4 : v.length ≤ 4000 := by have := of_decide_eq_false h4; omega
        have hn60 : n.length ≤ 60 := by
          unfold fnB at h1
          simp only [Bool.and_eq_true, decide_eq_true_eq] at h1
          omega
        rw [decide_eq_true (show v.length < 4294967281 by omega)]
        cases h5 : vlB v
        · rfl
        · have w : IntKind.i64.wrap ((n.length : Int) + 2) = (n.length : Int) + 2 := wrap_small _ (by omega) (by omega)
          have hl : (n ++ [58, 32] ++ v).length = n.length + 2 + v.length := by simp only [List.length_append]; rfl
          have hl2 : (n ++ [(58 : UInt8), 32]).length = n.length + 2 := by simp only [List.length_append]; rfl
          have hst : [] ++ strs (fl (n ++ [58, 32] ++ v).length (n ++ [58, 32] ++ v) ((n.length : Int) + 2)).1 ++ [AV.str (fl (n ++ [58, 32] ++ v).length (n ++ [58, 32] ++ v) ((n.length : Int) + 2)).2.1] = strs (flL n v) := by
            unfold flL strs
            rw [List.map_append]
            rfl
          have hsl : (strs (flL n v)).length = (flL n v).length := List.length_map _
          have hsl2 : (strs (fl (n ++ [58, 32] ++ v).length (n ++ [58, 32] ++ v) ((n.length : Int) + 2)).1).length = (fl (n ++ [58, 32] ++ v).length (n ++ [58, 32] ++ v) ((n.length : Int) + 2)).1.length := List.length_map _
          have hle := fl_le (n ++ [58, 32] ++ v).length (n ++ [58, 32] ++ v) ((n.length : Int) + 2)
          have hfl : (flL n v).length = (fl (n ++ [58, 32] ++ v).length (n ++ [58, 32] ++ v) ((n.length : Int) + 2)).1.length + 1 := by unfold flL; rw [List.length_append]; rfl
          rw [w, hst, longE_strs, hsl, strs_all]
          have r9 : ∀ x : AV, roomB (([] ++ strs (fl (n ++ [58, 32] ++ v).length (n ++ [58, 32] ++ v) ((n.length : Int) + 2)).1).length + [x].length) (Tryz.prog.bytesOf 9) = true := fun x => roomB_small (by
            have e := hsl2
            rw [List.nil_append, List.length_singleton]
            omega) by9
          refine Eq.trans (cond_f rfl) (Eq.trans (cond_f rfl) (Eq.trans (cond_t rfl) (Eq.trans (cond_f rfl) (Eq.trans (cond_t (decide_eq_true (by show n.length + 2 ≤ _; omega))) (Eq.trans (cond_t (decide_eq_true (by rw [hl2]; omega))) (Eq.trans (cond_t (decide_eq_true ⟨by omega, by show 0 + _ ≤ _; omega, by omega, rfl⟩)) (Eq.trans (cond_t (r9 _)) (Eq.trans (cond_t (and_t (cnt_zero (decide_eq_true (by omega))) rfl)) ?_))))))))
          cases (findN (longL (flL n v)) (flL n v).length 0).isSome <;> rfl
      · rfl
  · cases h
end Go.Proofs.YthdhfmdhjanoaaaGreatDoor


namespace Go.Proofs.YthdhfmdhjanoaaaGreatDoor
open Go.Ev
def fN (e : AV) : List UInt8 := (e.cells.headD .unk).toStr
def fV (e : AV) : List UInt8 := (e.cells.tail.headD .unk).toStr
def okF (e : AV) : Bool := small (fN e).length && small (fV e).length
noncomputable def GF : Env := { pure := [(79, ofT F79), (41, evF Tryz.prog G0 [] Tryz.f41), (43, evF Tryz.prog G0 [] Tryz.f43), (47, evF Tryz.prog G0 [] Tryz.f47)] }
theorem gF : GOK Tryz.prog GF := GOK.also (GOK.also (GOK.also (GOK.also g0 (inl g0 Tryz.func47 (by kernel_rfl))) (inl g0 Tryz.func43 (by kernel_rfl))) (inl g0 Tryz.func41 (by kernel_rfl))) ok79
noncomputable def b48 : Code := ((Tryz.f48.body.map loopsOf).getD []).headD .skip
def badF (es : List AV) (i : Nat) : Bool := !(fdC (fN (es.getD i .unk)) (fV (es.getD i .unk)) == 0)
def L48 : List AV → List (Option Row) → Tr LOut
  | [.ptr 0 0, .slv (.agg [.str, .str]) es, .int .i64 n, .int .i64 i], [some (.box false [.int .i64 0, .int .i64 0])] =>
    .gd (cnt n i es.length && es.all okF) (sT (badF es) es.length (fun q => .leaf (.ret, [.ptr 0 0, .slv (.agg [.str, .str]) es, .int .i64 n, .int .i64 (q : Nat)], [some (.box false [.int .i64 (fdC (fN (es.getD q .unk)) (fV (es.getD q .unk))), .int .i64 (q : Nat)])])) (.leaf (.exit 0, [.ptr 0 0, .slv (.agg [.str, .str]) es, .int .i64 n, .int .i64 es.length], [some (.box false [.int .i64 0, .int .i64 0])])) i.toNat)
  | _, _ => .no
def l48 : Ev.Loop := ⟨{ len := 34, slots := [2, 11, 12, 13], rows := [0] }, ofL L48⟩
def μ48 (vs : List AV) (_ : List (Option Row)) : Nat := match vs with
  | [_, _, .int _ n, .int _ i] => (n - i).toNat
  | _ => 0
theorem loop48 : LoopOK Tryz.prog GF [(4, l48)] b48 l48 := by
  refine loopT gF.natOK rfl (KOK.nil (by kernel_rfl)) μ48 (fun ρ vs rs k r h => ?_)
  unfold L48 at h
  split at h
  · rename_i es n i
    obtain ⟨hc, hk⟩ := gd_some h
    simp only [Bool.and_eq_true] at hc
    obtain ⟨hc, hall⟩ := hc
    obtain ⟨rfl, hs, j, rfl, hj⟩ := cnt_spec hc
    rw [Int.toNat_natCast] at hk
    refine Eq.trans (b := bif decide ((↑j : Int) < (↑es.length : Int)) then bif inb (↑j : Int) es.length then bif small (fN (es.getD j AV.unk)).length && small (fV (es.getD j AV.unk)).length then bif fdC (fN (es.getD j AV.unk)) (fV (es.getD j AV.unk)) != (0 : Int) then k Ex.ret [AV.ptr (0 : Nat) (0 : Nat), AV.slv (Sh.agg [Sh.str, Sh.str]) es, AV.int IntKind.i64 (↑es.length : Int), AV.int IntKind.i64 (↑j : Int)] [some (Row.box false [AV.int IntKind.i64 (fdC (fN (es.getD j AV.unk)) (fV (es.getD j AV.unk))), AV.int IntKind.i64 (↑j : Int)])] else bif decide (((↑es.length : Int) - IntKind.i64.wrap ((↑j : Int) + (1 : Int))).toNat < ((↑es.length : Int) - (↑j : Int)).toNat) then bif cnt (↑es.length : Int) (IntKind.i64.wrap ((↑j : Int) + (1 : Int))) es.length && es.all okF then bif (findN (badF es) es.length (IntKind.i64.wrap ((↑j : Int) + (1 : Int))).toNat).isSome then k Ex.ret [AV.ptr (0 : Nat) (0 : Nat), AV.slv (Sh.agg [Sh.str, Sh.str]) es, AV.int IntKind.i64 (↑es.length : Int), AV.int IntKind.i64 (↑((findN (badF es) es.length (IntKind.i64.wrap ((↑j : Int) + (1 : Int))).toNat).getD (0 : Nat)) : Int)] [some (Row.box false [AV.int IntKind.i64 (fdC (fN (es.getD ((findN (badF es) es.length (IntKind.i64.wrap ((↑j : Int) + (1 : Int))).toNat).getD (0 : Nat)) AV.unk)) (fV (es.getD ((findN (badF es) es.length (IntKind.i64.wrap ((↑j : Int) + (1 : Int))).toNat).getD (0 : Nat)) AV.unk))), AV.int IntKind.i64 (↑((findN (badF es) es.length (IntKind.i64.wrap ((↑j : Int) + (1 : Int))).toNat).getD (0 : Nat)) : Int)])] else k (Ex.exit (0 : Nat)) [AV.ptr (0 : Nat) (0 : Nat), AV.slv (Sh.agg [Sh.str, Sh.str]) es, AV.int IntKind.i64 (↑es.length : Int), AV.int IntKind.i64 (↑es.length : Int)] [some (Row.box false [AV.int IntKind.i64 (0 : Int), AV.int IntKind.i64 (0 : Int)])] else none else none else none else none else k (Ex.exit (0 : Nat)) [AV.ptr (0 : Nat) (0 : Nat), AV.slv (Sh.agg [Sh.str, Sh.str]) es, AV.int IntKind.i64 (↑es.length : Int), AV.int IntKind.i64 (↑j : Int)] [some (Row.box false [AV.int IntKind.i64 (0 : Int), AV.int IntKind.i64 (0 : Int)])]) (by kernel_rfl) ?_
    rw [← hk]
    by_cases hlt : j < es.length
    · obtain ⟨e1, e2, e3, e4, e5⟩ := cnt_facts hlt hs
      rw [sT_step _ _ _ _ _ hlt]
      have hok : okF (es.getD j .unk) = true := List.all_eq_true.1 hall _ (by rw [getD_eq hlt]; exact List.getElem_mem hlt)
      have hok' : (small (fN (es.getD j .unk)).length && small (fV (es.getD j .unk)).length) = true := hok
      have hw : badF es j = (fdC (fN (es.getD j .unk)) (fV (es.getD j .unk)) != 0) := rfl
      rw [hw]
      simp only [e1, e2, e3, e4, e5, hok', hall, Bool.and_true, cond_true, Int.toNat_natCast]
      rfl
    · obtain rfl : j = es.length := by omega
      rw [decide_eq_false (by omega), sT_end]
      rfl
  · cases h
def fsh : Sh := .agg [.str, .str]
def hvC (es : List AV) : Int := bif decide ((es.length : Int) > 60) then 2 else bif (findN (badF es) es.length 0).isSome then fdC (fN (es.getD ((findN (badF es) es.length 0).getD 0) .unk)) (fV (es.getD ((findN (badF es) es.length 0).getD 0) .unk)) else 0
def hvI (es : List AV) : Int := bif decide ((es.length : Int) > 60) then -1 else bif (findN (badF es) es.length 0).isSome then ((findN (badF es) es.length 0).getD 0 : Nat) else 0
def F48 : List AV → Tr AV
  | [.slv (.agg [.str, .str]) es] => .gd (small es.length && es.all okF) (.leaf (.agg [.int .i64 (hvC es), .int .i64 (hvI es)]))
  | _ => .no
theorem ok48 : SumOK Tryz.prog 48 (ofT F48) ∧ SNat (ofT F48) := by
  refine fn1 (K := [(4, l48)]) (b := b48) (l := l48) gF Tryz.func48 (by kernel_rfl) (by kernel_rfl) loop48 fun ρ avs k r h => ?_
  unfold F48 at h
  split at h
  · rename_i es
    obtain ⟨hc, hk⟩ := gd_some h
    simp only [Bool.and_eq_true] at hc
    obtain ⟨hc, hall⟩ := hc
    refine Eq.trans (b := bif decide ((↑es.length : Int) > (60 : Int)) then k (AV.agg [AV.int IntKind.i64 (2 : Int), AV.int IntKind.i64 (-1 : Int)]) else bif cnt (↑es.length : Int) (0 : Int) es.length && es.all okF then bif (findN (badF es) es.length (0 : Nat)).isSome then k (AV.agg [AV.int IntKind.i64 (fdC (fN (es.getD ((findN (badF es) es.length (0 : Nat)).getD (0 : Nat)) AV.unk)) (fV (es.getD ((findN (badF es) es.length (0 : Nat)).getD (0 : Nat)) AV.unk))), AV.int IntKind.i64 (↑((findN (badF es) es.length (0 : Nat)).getD (0 : Nat)) : Int)]) else k (AV.agg [AV.int IntKind.i64 (0 : Int), AV.int IntKind.i64 (0 : Int)]) else none) (by kernel_rfl) ?_
    rw [← hk, cnt_zero hc, hall]
    unfold hvC hvI
    cases decide ((es.length : Int) > 60) <;> cases (findN (badF es) es.length 0).isSome <;> rfl
  · cases h
noncomputable def b49 : Code := ((Tryz.f49.body.map loopsOf).getD []).headD .skip
noncomputable def c49 : Code := (((Tryz.f49.body.map loopsOf).getD []).tail).headD .skip
def crlf : List UInt8 := [13, 10]
def wrL (l : List AV) : List AV := l.flatMap fun e => bytesAV (sE e) ++ [.int .u8 13, .int .u8 10]
def wrF (es : List AV) : List AV := es.flatMap fun e => wrL (strs (fdL (fN e) (fV e)))
theorem by5 : Tryz.prog.bytesOf 5 = 1 := by kernel_rfl
theorem room5 {n : Nat} (h : n ≤ 150000000000000) : roomB n (Tryz.prog.bytesOf 5) = true := by
  rw [by5]
  unfold roomB
  rw [decide_eq_true (rfl : (1 : Nat) = 1), decide_eq_true h, decide_eq_true (show n ≤ 4611686018427387904 by omega)]
  cases decide (n * 1 ≤ 140737488355328) <;> rfl
def two : List AV := [.int .u8 13, .int .u8 10]
def L49 : List AV → List (Option Row) → Tr LOut
  | [.ptr 0 0, .slz (.int .u8), .own 900, .slv (.agg [.str, .str]) es, .int .i64 n, .int .i64 i], [some (.box false [.slv (.agg [.str, .str]) es', .slv (.int .u8) bs]), some (.arr false (.int .u8) e out none)] =>
    .gd (cnt n i es.length && (es.all okF && decide (out.length + (wrF (es.drop i.toNat)).length ≤ 100000000000 ∧ e = 5))) (.leaf (.exit 0, [.ptr 0 0, .slz (.int .u8), .own 900, .slv (.agg [.str, .str]) es, .int .i64 n, .int .i64 es.length], [some (.box false [.slv (.agg [.str, .str]) es', .slv (.int .u8) bs]), some (.arr false (.int .u8) e (out ++ wrF (es.drop i.toNat)) none)]))
  | _, _ => .no
def l49 : Ev.Loop := ⟨{ len := 44, slots := [1, 2, 3, 11, 12, 13], rows := [0, 900], homes := [(3, 900, 5)] }, ofL L49⟩
def μ49 (vs : List AV) (_ : List (Option Row)) : Nat := match vs with
  | [_, _, _, _, .int _ n, .int _ i] => (n - i).toNat
  | _ => 0
def L49b : List AV → List (Option Row) → Tr LOut
  | [.ptr 0 0, .slz (.int .u8), .own 901, .slv (.agg [.str, .str]) es, .int .i64 n, .int .i64 i, .slv .str ls, .int .i64 m, .int .i64 q], [some (.box false [.slv (.agg [.str, .str]) es', .slv (.int .u8) bs]), some (.arr false (.int .u8) e out none)] =>
    .gd (cnt m q ls.length && (ls.all isS && decide (out.length + (wrL (ls.drop q.toNat)).length ≤ 100000000000 ∧ e = 5))) (.leaf (.exit 2, [.ptr 0 0, .slz (.int .u8), .own 901, .slv (.agg [.str, .str]) es, .int .i64 n, .int .i64 i, .slv .str ls, .int .i64 m, .int .i64 ls.length], [some (.box false [.slv (.agg [.str, .str]) es', .slv (.int .u8) bs]), some (.arr false (.int .u8) e (out ++ wrL (ls.drop q.toNat)) none)]))
  | _, _ => .no
def l49b : Ev.Loop := ⟨{ len := 44, slots := [1, 2, 3, 11, 12, 13, 25, 26, 27], rows := [0, 901], homes := [(3, 901, 5)] }, ofL L49b⟩
def μ49b (vs : List AV) (_ : List (Option Row)) : Nat := match vs with
  | [_, _, _, _, _, _, _, .int _ n, .int _ i] => (n - i).toNat
  | _ => 0
theorem wrL_step {ls : List AV} {j : Nat} (h : j < ls.length) : wrL (ls.drop j) = bytesAV (sE (ls.getD j .unk)) ++ two ++ wrL (ls.drop (j + 1)) := by
  rw [drop_getD h]
  unfold wrL two
  rw [List.flatMap_cons]
theorem wrL_len : ∀ ls : List AV, ls.length ≤ (wrL ls).length
  | [] => Nat.le_refl _
  | e :: ls => by
    have := wrL_len ls
    unfold wrL at this ⊢
    rw [List.flatMap_cons, List.length_append, List.length_append, List.length_cons]
    show _ ≤ _ + 2 + _
    omega
theorem loop49b : LoopOK Tryz.prog GF [(3, l49), (7, l49b)] c49 l49b := by
  refine loopT gF.natOK rfl (KOK.nil (by kernel_rfl)) μ49b (fun ρ vs rs k r h => ?_)
  unfold L49b at h
  split at h
  · rename_i es n i ls m q es' bs e out
    obtain ⟨hc, hk⟩ := gd_some h
    simp only [Bool.and_eq_true] at hc
    obtain ⟨hc, hall, hb0⟩ := hc
    obtain ⟨hb, rfl⟩ := of_decide_eq_true hb0
    clear hb0
    obtain ⟨rfl, hs, j, rfl, hj⟩ := cnt_spec hc
    rw [Int.toNat_natCast] at hk hb
    refine Eq.trans (b := bif decide ((↑j : Int) < (↑ls.length : Int)) then bif inb (↑j : Int) ls.length then bif roomB (out.length + (bytesAV (sE (ls.getD j AV.unk))).length) (Tryz.prog.bytesOf (5 : Nat)) then bif roomB ((out ++ bytesAV (sE (ls.getD j AV.unk))).length + [AV.int IntKind.u8 (13 : Int), AV.int IntKind.u8 (10 : Int)].length) (Tryz.prog.bytesOf (5 : Nat)) then bif decide (((↑ls.length : Int) - IntKind.i64.wrap ((↑j : Int) + (1 : Int))).toNat < ((↑ls.length : Int) - (↑j : Int)).toNat) then bif cnt (↑ls.length : Int) (IntKind.i64.wrap ((↑j : Int) + (1 : Int))) ls.length && (ls.all isS && decide ((out ++ bytesAV (sE (ls.getD j AV.unk)) ++ [AV.int IntKind.u8 (13 : Int), AV.int IntKind.u8 (10 : Int)]).length + (wrL (List.drop (IntKind.i64.wrap ((↑j : Int) + (1 : Int))).toNat ls)).length ≤ (100000000000 : Nat) ∧ (5 : Nat) = (5 : TypeId))) then k (Ex.exit (2 : Nat)) [AV.ptr (0 : Nat) (0 : Nat), AV.slz (Sh.int IntKind.u8), AV.own (901 : Nat), AV.slv (Sh.agg [Sh.str, Sh.str]) es, AV.int IntKind.i64 n, AV.int IntKind.i64 i, AV.slv Sh.str ls, AV.int IntKind.i64 (↑ls.length : Int), AV.int IntKind.i64 (↑ls.length : Int)] [some (Row.box false [AV.slv (Sh.agg [Sh.str, Sh.str]) es', AV.slv (Sh.int IntKind.u8) bs]), some (Row.arr false (Sh.int IntKind.u8) (5 : Nat) (out ++ bytesAV (sE (ls.getD j AV.unk)) ++ [AV.int IntKind.u8 (13 : Int), AV.int IntKind.u8 (10 : Int)] ++ wrL (List.drop (IntKind.i64.wrap ((↑j : Int) + (1 : Int))).toNat ls)) none)] else none else none else none else none else none else k (Ex.exit (2 : Nat)) [AV.ptr (0 : Nat) (0 : Nat), AV.slz (Sh.int IntKind.u8), AV.own (901 : Nat), AV.slv (Sh.agg [Sh.str, Sh.str]) es, AV.int IntKind.i64 n, AV.int IntKind.i64 i, AV.slv Sh.str ls, AV.int IntKind.i64 (↑ls.length : Int), AV.int IntKind.i64 (↑j : Int)] [some (Row.box false [AV.slv (Sh.agg [Sh.str, Sh.str]) es', AV.slv (Sh.int IntKind.u8) bs]), some (Row.arr false (Sh.int IntKind.u8) (5 : Nat) out none)]) (by kernel_rfl) ?_
    rw [← hk]
    by_cases hlt : j < ls.length
    · obtain ⟨e1, e2, e3, e4, e5⟩ := cnt_facts hlt hs
      rw [wrL_step hlt] at hb ⊢
      simp only [List.length_append] at hb
      have h2 : two.length = 2 := rfl
      have hn : (out ++ bytesAV (sE (ls.getD j .unk)) ++ two).length = out.length + (bytesAV (sE (ls.getD j .unk))).length + 2 := by rw [List.length_append, List.length_append, h2]
      simp only [e1, e2, e3, e4, e5, hall, Bool.true_and, Bool.and_true, cond_true, Int.toNat_natCast]
      refine Eq.trans (cond_t (room5 (by omega))) (Eq.trans (cond_t (room5 (by rw [List.length_append]; show _ + 2 ≤ _; omega))) (Eq.trans (cond_t (decide_eq_true ⟨by show (out ++ bytesAV (sE (ls.getD j .unk)) ++ two).length + _ ≤ _; omega, trivial⟩)) ?_))
      show k _ _ [_, some (.arr false (.int .u8) 5 (out ++ bytesAV (sE (ls.getD j .unk)) ++ two ++ wrL (ls.drop (j + 1))) none)] = k _ _ [_, some (.arr false (.int .u8) 5 (out ++ (bytesAV (sE (ls.getD j .unk)) ++ two ++ wrL (ls.drop (j + 1)))) none)]
      simp only [List.append_assoc]
    · obtain rfl : j = ls.length := by omega
      rw [decide_eq_false (by omega), List.drop_length]
      show k _ _ _ = k _ _ [_, some (.arr false (.int .u8) 5 (out ++ []) none)]
      rw [List.append_nil]
  · cases h
theorem wrF_step {es : List AV} {j : Nat} (h : j < es.length) : wrF (es.drop j) = wrL (strs (fdL (fN (es.getD j .unk)) (fV (es.getD j .unk)))) ++ wrF (es.drop (j + 1)) := by
  rw [drop_getD h]
  unfold wrF
  rw [List.flatMap_cons]
theorem loop49 : LoopOK Tryz.prog GF [(3, l49), (7, l49b)] b49 l49 := by
  refine loopT gF.natOK rfl (KOK.one (by kernel_rfl) (by kernel_rfl) loop49b) μ49 (fun ρ vs rs k r h => ?_)
  unfold L49 at h
  split at h
  · rename_i es n i es' bs e out
    obtain ⟨hc, hk⟩ := gd_some h
    simp only [Bool.and_eq_true] at hc
    obtain ⟨hc, hall, hb0⟩ := hc
    obtain ⟨hb, rfl⟩ := of_decide_eq_true hb0
    clear hb0
    obtain ⟨rfl, hs, j, rfl, hj⟩ := cnt_spec hc
    rw [Int.toNat_natCast] at hk hb
    refine Eq.trans (b := bif decide ((↑j : Int) < (↑es.length : Int)) then bif inb (↑j : Int) es.length then bif small (fN (es.getD j AV.unk)).length && small (fV (es.getD j AV.unk)).length then bif cnt (↑(strs (fdL (fN (es.getD j AV.unk)) (fV (es.getD j AV.unk)))).length : Int) (0 : Int) (strs (fdL (fN (es.getD j AV.unk)) (fV (es.getD j AV.unk)))).length && ((strs (fdL (fN (es.getD j AV.unk)) (fV (es.getD j AV.unk)))).all isS && decide (out.length + (wrL (List.drop (0 : Nat) (strs (fdL (fN (es.getD j AV.unk)) (fV (es.getD j AV.unk)))))).length ≤ (100000000000 : Nat) ∧ (5 : TypeId) = (5 : TypeId))) then bif decide (((↑es.length : Int) - IntKind.i64.wrap ((↑j : Int) + (1 : Int))).toNat < ((↑es.length : Int) - (↑j : Int)).toNat) then bif cnt (↑es.length : Int) (IntKind.i64.wrap ((↑j : Int) + (1 : Int))) es.length && (es.all okF && decide ((out ++ wrL (List.drop (0 : Nat) (strs (fdL (fN (es.getD j AV.unk)) (fV (es.getD j AV.unk)))))).length + (wrF (List.drop (IntKind.i64.wrap ((↑j : Int) + (1 : Int))).toNat es)).length ≤ (100000000000 : Nat) ∧ (5 : TypeId) = (5 : TypeId))) then k (Ex.exit (0 : Nat)) [AV.ptr (0 : Nat) (0 : Nat), AV.slz (Sh.int IntKind.u8), AV.own (900 : Nat), AV.slv (Sh.agg [Sh.str, Sh.str]) es, AV.int IntKind.i64 (↑es.length : Int), AV.int IntKind.i64 (↑es.length : Int)] [some (Row.box false [AV.slv (Sh.agg [Sh.str, Sh.str]) es', AV.slv (Sh.int IntKind.u8) bs]), some (Row.arr false (Sh.int IntKind.u8) (5 : Nat) (out ++ wrL (List.drop (0 : Nat) (strs (fdL (fN (es.getD j AV.unk)) (fV (es.getD j AV.unk))))) ++ wrF (List.drop (IntKind.i64.wrap ((↑j : Int) + (1 : Int))).toNat es)) none)] else none else none else none else none else none else k (Ex.exit (0 : Nat)) [AV.ptr (0 : Nat) (0 : Nat), AV.slz (Sh.int IntKind.u8), AV.own (900 : Nat), AV.slv (Sh.agg [Sh.str, Sh.str]) es, AV.int IntKind.i64 (↑es.length : Int), AV.int IntKind.i64 (↑j : Int)] [some (Row.box false [AV.slv (Sh.agg [Sh.str, Sh.str]) es', AV.slv (Sh.int IntKind.u8) bs]), some (Row.arr false (Sh.int IntKind.u8) (5 : Nat) out none)]) (by kernel_rfl) ?_
    rw [← hk]
    by_cases hlt : j < es.length
    · obtain ⟨e1, e2, e3, e4, e5⟩ := cnt_facts hlt hs
      have hok : okF (es.getD j .unk) = true := List.all_eq_true.1 hall _ (by rw [getD_eq hlt]; exact List.getElem_mem hlt)
      have hok' : (small (fN (es.getD j .unk)).length && small (fV (es.getD j .unk)).length) = true := hok
      rw [wrF_step hlt] at hb ⊢
      generalize fdL (fN (es.getD j .unk)) (fV (es.getD j .unk)) = l at hb ⊢
      have hlen := wrL_len (strs l)
      have hn : (out ++ wrL (strs l)).length = out.length + (wrL (strs l)).length := List.length_append
      rw [List.length_append] at hb
      simp only [e1, e2, e3, e4, e5, hok', hall, strs_all, List.drop_zero, Bool.true_and, Bool.and_true, cond_true, Int.toNat_natCast]
      refine Eq.trans (cond_t (and_t (cnt_zero (decide_eq_true (by omega))) (decide_eq_true ⟨by omega, trivial⟩))) (Eq.trans (cond_t (decide_eq_true ⟨by omega, trivial⟩)) ?_)
      rw [List.append_assoc]
      rfl
    · obtain rfl : j = es.length := by omega
      rw [decide_eq_false (by omega), List.drop_length]
      show k _ _ _ = k _ _ [_, some (.arr false (.int .u8) 5 (out ++ []) none)]
      rw [List.append_nil]
  · cases h
def F49 : List AV → Tr AV
  | [.agg [.slv (.agg [.str, .str]) es, .slv (.int .u8) bs]] => .gd (small es.length && (es.all okF && decide ((wrF es).length ≤ 100000000000 ∧ bs.length ≤ 141000000000000))) (.leaf (.slv (.int .u8) (wrF es ++ two ++ bs)))
  | _ => .no
theorem ok49 : SumOK Tryz.prog 49 (ofT F49) ∧ SNat (ofT F49) := by
  refine fnT (K := [(3, l49), (7, l49b)]) gF Tryz.func49 (bs := [b49, c49]) (by kernel_rfl) (fun b hb => ?_) fun ρ avs k r h => ?_
  · simp at hb
    rcases hb with rfl | rfl
    · exact ⟨l49, by kernel_rfl, loop49⟩
    · exact ⟨l49b, by kernel_rfl, loop49b⟩
  unfold F49 at h
  split at h
  · rename_i es bs
    obtain ⟨hc, hk⟩ := gd_some h
    simp only [Bool.and_eq_true] at hc
    obtain ⟨hc, hall, hb⟩ := hc
    obtain ⟨hb, hb2⟩ := of_decide_eq_true hb
    refine Eq.trans (b := bif cnt (↑es.length : Int) (0 : Int) es.length && (es.all okF && decide (([] : List AV).length + (wrF (List.drop (0 : Nat) es)).length ≤ (100000000000 : Nat) ∧ ((3 : Nat), (900 : Nat), (5 : TypeId)).snd.snd = (5 : TypeId))) then bif roomB (([] ++ wrF (List.drop (0 : Nat) es)).length + [AV.int IntKind.u8 (13 : Int), AV.int IntKind.u8 (10 : Int)].length) (Tryz.prog.bytesOf (5 : Nat)) then bif roomB (([] ++ wrF (List.drop (0 : Nat) es) ++ [AV.int IntKind.u8 (13 : Int), AV.int IntKind.u8 (10 : Int)]).length + bs.length) (Tryz.prog.bytesOf (5 : Nat)) then k (AV.slv (Sh.int IntKind.u8) ([] ++ wrF (List.drop (0 : Nat) es) ++ [AV.int IntKind.u8 (13 : Int), AV.int IntKind.u8 (10 : Int)] ++ bs)) else none else none else none) (by kernel_rfl) ?_
    rw [← hk, List.drop_zero, List.nil_append, hall]
    refine Eq.trans (cond_t (and_t (cnt_zero hc) (and_t rfl (decide_eq_true ⟨by show 0 + _ ≤ _; omega, rfl⟩)))) (Eq.trans (cond_t (room5 (by show _ + 2 ≤ _; omega))) (Eq.trans (cond_t (room5 (by rw [List.length_append]; show _ + 2 + _ ≤ _; omega))) rfl))
  · cases h
def iE (e : AV) : Int := (e.cells.headD .unk).toInt
noncomputable def b80 : Code := ((Tryz.f80.body.map loopsOf).getD []).headD .skip
def bdL (es : List AV) : Nat → Int → Nat → Int × Int × Nat
  | 0, n, i => (0, n, i)
  | f + 1, n, i => bif decide (i < es.length) then
      (bif iE (es.getD i .unk) == 13 && (decide (i + 1 < es.length) && iE (es.getD (i + 1) .unk) == 10) then bdL es f 0 (i + 2)
       else bif iE (es.getD i .unk) == 13 || iE (es.getD i .unk) == 10 then (11, n, i)
       else bif decide (n + 1 > 998) then (1, n + 1, i) else bdL es f (n + 1) (i + 1))
    else (0, n, i)
theorem bdL_step (es : List AV) (f : Nat) (n : Int) (i : Nat) : bdL es (f + 1) n i = bif decide (i < es.length) then
      (bif iE (es.getD i .unk) == 13 && (decide (i + 1 < es.length) && iE (es.getD (i + 1) .unk) == 10) then bdL es f 0 (i + 2)
       else bif iE (es.getD i .unk) == 13 || iE (es.getD i .unk) == 10 then (11, n, i)
       else bif decide (n + 1 > 998) then (1, n + 1, i) else bdL es f (n + 1) (i + 1))
    else (0, n, i) := rfl
theorem bdL_fuel (es : List AV) : ∀ (f g : Nat) (n : Int) (i : Nat), es.length - i < f → es.length - i < g → bdL es f n i = bdL es g n i
  | 0, _, _, _, h, _ => absurd h (Nat.not_lt_zero _)
  | _ + 1, 0, _, _, _, h => absurd h (Nat.not_lt_zero _)
  | f + 1, g + 1, n, i, hf, hg => by
    rw [bdL_step, bdL_step]
    by_cases h : i < es.length
    · rw [bdL_fuel es f g 0 (i + 2) (by omega) (by omega), bdL_fuel es f g (n + 1) (i + 1) (by omega) (by omega)]
    · rw [decide_eq_false h]; rfl
def bd (es : List AV) (n : Int) (i : Nat) : Int × Int × Nat := bdL es (es.length - i + 1) n i
theorem bd_lt {es : List AV} {i : Nat} (h : i < es.length) (n : Int) : bd es n i = bif iE (es.getD i .unk) == 13 && (decide (i + 1 < es.length) && iE (es.getD (i + 1) .unk) == 10) then bd es 0 (i + 2)
       else bif iE (es.getD i .unk) == 13 || iE (es.getD i .unk) == 10 then (11, n, i)
       else bif decide (n + 1 > 998) then (1, n + 1, i) else bd es (n + 1) (i + 1) := by
  unfold bd
  rw [bdL_step, decide_eq_true h, cond_true, bdL_fuel es (es.length - i) (es.length - (i + 1) + 1) (n + 1) (i + 1) (by omega) (by omega)]
  by_cases h2 : i + 1 < es.length
  · rw [bdL_fuel es (es.length - i) (es.length - (i + 2) + 1) 0 (i + 2) (by omega) (by omega)]
  · rw [decide_eq_false h2, Bool.false_and, Bool.and_false]; rfl
theorem bd_end {es : List AV} (n : Int) : bd es n es.length = (0, n, es.length) := by
  unfold bd
  rw [bdL_step, decide_eq_false (Nat.lt_irrefl _)]; rfl
def L80 : List AV → List (Option Row) → Tr LOut
  | [.slv (.int .u8) es, .int .i64 r, .int .i64 n, .int .i64 i], [] =>
    .gd (small es.length && decide (0 ≤ i ∧ i ≤ es.length ∧ 0 ≤ n ∧ n ≤ 998)) (.br ((bd es n i.toNat).1 == 0)
      (.leaf (.exit 0, [.slv (.int .u8) es, .int .i64 r, .int .i64 (bd es n i.toNat).2.1, .int .i64 (bd es n i.toNat).2.2], []))
      (.leaf (.ret, [.slv (.int .u8) es, .int .i64 (bd es n i.toNat).1, .int .i64 (bd es n i.toNat).2.1, .int .i64 (bd es n i.toNat).2.2], [])))
  | _, _ => .no
def l80 : Ev.Loop := ⟨{ len := 45, slots := [0, 2, 3, 4] }, ofL L80⟩
def μ80 (vs : List AV) (_ : List (Option Row)) : Nat := match vs with
  | [.slv _ es, _, _, .int _ i] => ((es.length : Int) - i).toNat
  | _ => 0
theorem loop80 : LoopOK Tryz.prog G0 [(3, l80)] b80 l80 := by
  refine loopT g0.natOK rfl (KOK.nil (by kernel_rfl)) μ80 (fun ρ vs rs k r h => ?_)
  unfold L80 at h
  split at h
  · rename_i es r0 n i
    obtain ⟨hc, hk⟩ := gd_some h
    simp only [Bool.and_eq_true, decide_eq_true_eq] at hc
    obtain ⟨hs, h0, h1, h2, h3⟩ := hc
    have hs : es.length ≤ 9223372036854775807 := of_decide_eq_true hs
    obtain ⟨j, rfl⟩ : ∃ j : Nat, i = j := ⟨i.toNat, by omega⟩
    rw [Int.toNat_natCast] at hk
    refine Eq.trans (b := bif decide ((↑j : Int) < (↑es.length : Int)) then bif inb (↑j : Int) es.length then bif (iE (es.getD j AV.unk)) == (13 : Int) then bif decide (IntKind.i64.wrap ((↑j : Int) + (1 : Int)) < (↑es.length : Int)) then bif inb (IntKind.i64.wrap ((↑j : Int) + (1 : Int))) es.length then bif (iE (es.getD (IntKind.i64.wrap ((↑j : Int) + (1 : Int))).toNat AV.unk)) == (10 : Int) then bif decide (((↑es.length : Int) - IntKind.i64.wrap (IntKind.i64.wrap ((↑j : Int) + (1 : Int)) + (1 : Int))).toNat < ((↑es.length : Int) - (↑j : Int)).toNat) then bif small es.length && decide ((0 : Int) ≤ IntKind.i64.wrap (IntKind.i64.wrap ((↑j : Int) + (1 : Int)) + (1 : Int)) ∧ IntKind.i64.wrap (IntKind.i64.wrap ((↑j : Int) + (1 : Int)) + (1 : Int)) ≤ (↑es.length : Int) ∧ (0 : Int) ≤ (0 : Int) ∧ (0 : Int) ≤ (998 : Int)) then bif (bd es (0 : Int) (IntKind.i64.wrap (IntKind.i64.wrap ((↑j : Int) + (1 : Int)) + (1 : Int))).toNat).fst == (0 : Int) then k (Ex.exit (0 : Nat)) [AV.slv (Sh.int IntKind.u8) es, AV.int IntKind.i64 r0, AV.int IntKind.i64 (bd es (0 : Int) (IntKind.i64.wrap (IntKind.i64.wrap ((↑j : Int) + (1 : Int)) + (1 : Int))).toNat).snd.fst, AV.int IntKind.i64 (↑(bd es (0 : Int) (IntKind.i64.wrap (IntKind.i64.wrap ((↑j : Int) + (1 : Int)) + (1 : Int))).toNat).snd.snd : Int)] [] else k Ex.ret [AV.slv (Sh.int IntKind.u8) es, AV.int IntKind.i64 (bd es (0 : Int) (IntKind.i64.wrap (IntKind.i64.wrap ((↑j : Int) + (1 : Int)) + (1 : Int))).toNat).fst, AV.int IntKind.i64 (bd es (0 : Int) (IntKind.i64.wrap (IntKind.i64.wrap ((↑j : Int) + (1 : Int)) + (1 : Int))).toNat).snd.fst, AV.int IntKind.i64 (↑(bd es (0 : Int) (IntKind.i64.wrap (IntKind.i64.wrap ((↑j : Int) + (1 : Int)) + (1 : Int))).toNat).snd.snd : Int)] [] else none else none else bif (iE (es.getD j AV.unk)) == (13 : Int) then k Ex.ret [AV.slv (Sh.int IntKind.u8) es, AV.int IntKind.i64 (11 : Int), AV.int IntKind.i64 n, AV.int IntKind.i64 (↑j : Int)] [] else bif (iE (es.getD j AV.unk)) == (10 : Int) then k Ex.ret [AV.slv (Sh.int IntKind.u8) es, AV.int IntKind.i64 (11 : Int), AV.int IntKind.i64 n, AV.int IntKind.i64 (↑j : Int)] [] else bif decide (IntKind.i64.wrap (n + (1 : Int)) > (998 : Int)) then k Ex.ret [AV.slv (Sh.int IntKind.u8) es, AV.int IntKind.i64 (1 : Int), AV.int IntKind.i64 (IntKind.i64.wrap (n + (1 : Int))), AV.int IntKind.i64 (↑j : Int)] [] else bif decide (((↑es.length : Int) - IntKind.i64.wrap ((↑j : Int) + (1 : Int))).toNat < ((↑es.length : Int) - (↑j : Int)).toNat) then bif small es.length && decide ((0 : Int) ≤ IntKind.i64.wrap ((↑j : Int) + (1 : Int)) ∧ IntKind.i64.wrap ((↑j : Int) + (1 : Int)) ≤ (↑es.length : Int) ∧ (0 : Int) ≤ IntKind.i64.wrap (n + (1 : Int)) ∧ IntKind.i64.wrap (n + (1 : Int)) ≤ (998 : Int)) then bif (bd es (IntKind.i64.wrap (n + (1 : Int))) (IntKind.i64.wrap ((↑j : Int) + (1 : Int))).toNat).fst == (0 : Int) then k (Ex.exit (0 : Nat)) [AV.slv (Sh.int IntKind.u8) es, AV.int IntKind.i64 r0, AV.int IntKind.i64 (bd es (IntKind.i64.wrap (n + (1 : Int))) (IntKind.i64.wrap ((↑j : Int) + (1 : Int))).toNat).snd.fst, AV.int IntKind.i64 (↑(bd es (IntKind.i64.wrap (n + (1 : Int))) (IntKind.i64.wrap ((↑j : Int) + (1 : Int))).toNat).snd.snd : Int)] [] else k Ex.ret [AV.slv (Sh.int IntKind.u8) es, AV.int IntKind.i64 (bd es (IntKind.i64.wrap (n + (1 : Int))) (IntKind.i64.wrap ((↑j : Int) + (1 : Int))).toNat).fst, AV.int IntKind.i64 (bd es (IntKind.i64.wrap (n + (1 : Int))) (IntKind.i64.wrap ((↑j : Int) + (1 : Int))).toNat).snd.fst, AV.int IntKind.i64 (↑(bd es (IntKind.i64.wrap (n + (1 : Int))) (IntKind.i64.wrap ((↑j : Int) + (1 : Int))).toNat).snd.snd : Int)] [] else none else none else none else bif (iE (es.getD j AV.unk)) == (13 : Int) then k Ex.ret [AV.slv (Sh.int IntKind.u8) es, AV.int IntKind.i64 (11 : Int), AV.int IntKind.i64 n, AV.int IntKind.i64 (↑j : Int)] [] else bif (iE (es.getD j AV.unk)) == (10 : Int) then k Ex.ret [AV.slv (Sh.int IntKind.u8) es, AV.int IntKind.i64 (11 : Int), AV.int IntKind.i64 n, AV.int IntKind.i64 (↑j : Int)] [] else bif decide (IntKind.i64.wrap (n + (1 : Int)) > (998 : Int)) then k Ex.ret [AV.slv (Sh.int IntKind.u8) es, AV.int IntKind.i64 (1 : Int), AV.int IntKind.i64 (IntKind.i64.wrap (n + (1 : Int))), AV.int IntKind.i64 (↑j : Int)] [] else bif decide (((↑es.length : Int) - IntKind.i64.wrap ((↑j : Int) + (1 : Int))).toNat < ((↑es.length : Int) - (↑j : Int)).toNat) then bif small es.length && decide ((0 : Int) ≤ IntKind.i64.wrap ((↑j : Int) + (1 : Int)) ∧ IntKind.i64.wrap ((↑j : Int) + (1 : Int)) ≤ (↑es.length : Int) ∧ (0 : Int) ≤ IntKind.i64.wrap (n + (1 : Int)) ∧ IntKind.i64.wrap (n + (1 : Int)) ≤ (998 : Int)) then bif (bd es (IntKind.i64.wrap (n + (1 : Int))) (IntKind.i64.wrap ((↑j : Int) + (1 : Int))).toNat).fst == (0 : Int) then k (Ex.exit (0 : Nat)) [AV.slv (Sh.int IntKind.u8) es, AV.int IntKind.i64 r0, AV.int IntKind.i64 (bd es (IntKind.i64.wrap (n + (1 : Int))) (IntKind.i64.wrap ((↑j : Int) + (1 : Int))).toNat).snd.fst, AV.int IntKind.i64 (↑(bd es (IntKind.i64.wrap (n + (1 : Int))) (IntKind.i64.wrap ((↑j : Int) + (1 : Int))).toNat).snd.snd : Int)] [] else k Ex.ret [AV.slv (Sh.int IntKind.u8) es, AV.int IntKind.i64 (bd es (IntKind.i64.wrap (n + (1 : Int))) (IntKind.i64.wrap ((↑j : Int) + (1 : Int))).toNat).fst, AV.int IntKind.i64 (bd es (IntKind.i64.wrap (n + (1 : Int))) (IntKind.i64.wrap ((↑j : Int) + (1 : Int))).toNat).snd.fst, AV.int IntKind.i64 (↑(bd es (IntKind.i64.wrap (n + (1 : Int))) (IntKind.i64.wrap ((↑j : Int) + (1 : Int))).toNat).snd.snd : Int)] [] else none else none else bif (iE (es.getD j AV.unk)) == (13 : Int) then k Ex.ret [AV.slv (Sh.int IntKind.u8) es, AV.int IntKind.i64 (11 : Int), AV.int IntKind.i64 n, AV.int IntKind.i64 (↑j : Int)] [] else bif (iE (es.getD j AV.unk)) == (10 : Int) then k Ex.ret [AV.slv (Sh.int IntKind.u8) es, AV.int IntKind.i64 (11 : Int), AV.int IntKind.i64 n, AV.int IntKind.i64 (↑j : Int)] [] else bif decide (IntKind.i64.wrap (n + (1 : Int)) > (998 : Int)) then k Ex.ret [AV.slv (Sh.int IntKind.u8) es, AV.int IntKind.i64 (1 : Int), AV.int IntKind.i64 (IntKind.i64.wrap (n + (1 : Int))), AV.int IntKind.i64 (↑j : Int)] [] else bif decide (((↑es.length : Int) - IntKind.i64.wrap ((↑j : Int) + (1 : Int))).toNat < ((↑es.length : Int) - (↑j : Int)).toNat) then bif small es.length && decide ((0 : Int) ≤ IntKind.i64.wrap ((↑j : Int) + (1 : Int)) ∧ IntKind.i64.wrap ((↑j : Int) + (1 : Int)) ≤ (↑es.length : Int) ∧ (0 : Int) ≤ IntKind.i64.wrap (n + (1 : Int)) ∧ IntKind.i64.wrap (n + (1 : Int)) ≤ (998 : Int)) then bif (bd es (IntKind.i64.wrap (n + (1 : Int))) (IntKind.i64.wrap ((↑j : Int) + (1 : Int))).toNat).fst == (0 : Int) then k (Ex.exit (0 : Nat)) [AV.slv (Sh.int IntKind.u8) es, AV.int IntKind.i64 r0, AV.int IntKind.i64 (bd es (IntKind.i64.wrap (n + (1 : Int))) (IntKind.i64.wrap ((↑j : Int) + (1 : Int))).toNat).snd.fst, AV.int IntKind.i64 (↑(bd es (IntKind.i64.wrap (n + (1 : Int))) (IntKind.i64.wrap ((↑j : Int) + (1 : Int))).toNat).snd.snd : Int)] [] else k Ex.ret [AV.slv (Sh.int IntKind.u8) es, AV.int IntKind.i64 (bd es (IntKind.i64.wrap (n + (1 : Int))) (IntKind.i64.wrap ((↑j : Int) + (1 : Int))).toNat).fst, AV.int IntKind.i64 (bd es (IntKind.i64.wrap (n + (1 : Int))) (IntKind.i64.wrap ((↑j : Int) + (1 : Int))).toNat).snd.fst, AV.int IntKind.i64 (↑(bd es (IntKind.i64.wrap (n + (1 : Int))) (IntKind.i64.wrap ((↑j : Int) + (1 : Int))).toNat).snd.snd : Int)] [] else none else none else none else k (Ex.exit (0 : Nat)) [AV.slv (Sh.int IntKind.u8) es, AV.int IntKind.i64 r0, AV.int IntKind.i64 n, AV.int IntKind.i64 (↑j : Int)] []) (by kernel_rfl) ?_
    rw [← hk]
    by_cases hlt : j < es.length
    · have w1 : IntKind.i64.wrap ((j : Int) + 1) = ((j + 1 : Nat) : Int) := by rw [wrap_small _ (by omega) (by omega)]; omega
      have w3 : IntKind.i64.wrap (n + 1) = n + 1 := wrap_small _ (by omega) (by omega)
      rw [bd_lt hlt]
      have hsm : small es.length = true := decide_eq_true (by omega)
      simp only [w1, w3, Int.toNat_natCast, hsm, Bool.true_and]
      have e2 : inb (j : Int) es.length = true := inb_true (by omega) (by omega)
      rw [decide_eq_true (show (j : Int) < (es.length : Int) by omega), e2, cond_true, cond_true]
      have hgo : ∀ (X : Option ρ), (bif decide ((es.length - ((j + 1 : Nat) : Int)).toNat < ((es.length : Int) - (j : Int)).toNat) then X else none) = X := fun X => cond_t (decide_eq_true (by omega))
      have hz : decide (n + 1 > 998) = false → decide ((0 : Int) ≤ ((j + 1 : Nat) : Int) ∧ ((j + 1 : Nat) : Int) ≤ es.length ∧ 0 ≤ n + 1 ∧ n + 1 ≤ 998) = true := fun h => decide_eq_true ⟨by omega, by omega, by omega, by have := of_decide_eq_false h; omega⟩
      cases h13 : iE (es.getD j .unk) == 13
      · cases h10 : iE (es.getD j .unk) == 10
        · cases h9 : decide (n + 1 > 998)
          · simp only [cond_false, Bool.false_and, Bool.or_false, hgo, hz h9, cond_true]
            rfl
          · rfl
        · rfl
      · by_cases hl1 : j + 1 < es.length
        · have w2 : IntKind.i64.wrap (((j + 1 : Nat) : Int) + 1) = ((j + 2 : Nat) : Int) := by rw [wrap_small _ (by omega) (by omega)]; omega
          have e3 : inb ((j + 1 : Nat) : Int) es.length = true := inb_true (by omega) (by omega)
          rw [decide_eq_true (show ((j + 1 : Nat) : Int) < (es.length : Int) by omega), e3, decide_eq_true hl1]
          simp only [w2, Int.toNat_natCast]
          cases h10 : iE (es.getD (j + 1) .unk) == 10
          · rfl
          · refine Eq.trans (cond_t rfl) (Eq.trans (cond_t rfl) (Eq.trans (cond_t rfl) (Eq.trans (cond_t rfl) (Eq.trans (cond_t (decide_eq_true (by omega))) (Eq.trans (cond_t (decide_eq_true ⟨by omega, by omega, by omega, by omega⟩)) ?_)))))
            rfl
        · rw [decide_eq_false (show ¬ ((j + 1 : Nat) : Int) < (es.length : Int) by omega), decide_eq_false hl1]
          rfl
    · obtain rfl : j = es.length := by omega
      rw [bd_end, decide_eq_false (by omega)]
      rfl
  · cases h
def F80 : List AV → Tr AV
  | [.slv (.int .u8) es] => .gd (small es.length) (.leaf (.int .i64 (bd es 0 0).1))
  | _ => .no
theorem ok80 : SumOK Tryz.prog 80 (ofT F80) ∧ SNat (ofT F80) := by
  refine fn1 (K := [(3, l80)]) (b := b80) (l := l80) g0 Tryz.func80 (by kernel_rfl) (by kernel_rfl) loop80 fun ρ avs k r h => ?_
  unfold F80 at h
  split at h
  · rename_i es
    obtain ⟨hc, hk⟩ := gd_some h
    refine Eq.trans (b := bif small es.length && decide ((0 : Int) ≤ (0 : Int) ∧ (0 : Int) ≤ (↑es.length : Int) ∧ (0 : Int) ≤ (0 : Int) ∧ (0 : Int) ≤ (998 : Int)) then bif (bd es (0 : Int) (0 : Nat)).fst == (0 : Int) then k (AV.int IntKind.i64 (0 : Int)) else k (AV.int IntKind.i64 (bd es (0 : Int) (0 : Nat)).fst) else none) (by kernel_rfl) ?_
    rw [← hk, hc]
    refine Eq.trans (cond_t (and_t rfl (decide_eq_true ⟨by omega, by omega, by omega, by omega⟩))) ?_
    show (bif (bd es 0 0).1 == 0 then _ else _) = _
    cases h0 : (bd es 0 0).1 == 0
    · rfl
    · have : (bd es 0 0).1 = 0 := by simpa using h0
      rw [this]; rfl
  · cases h
end Go.Proofs.YthdhfmdhjanoaaaGreatDoor


namespace Go.Proofs.YthdhfmdhjanoaaaGreatDoor
open Go.Ev
def mbC (es : List AV) : Int := bif (bd es 0 0).1 == 11 then 11 else bif (bd es 0 0).1 == 1 then 1 else 0
def mbI (es : List AV) : Int := bif (bd es 0 0).1 == 11 then -5 else bif (bd es 0 0).1 == 1 then -6 else 0
noncomputable def G50 : Env := { pure := [(80, ofT F80), (43, evF Tryz.prog G0 [] Tryz.f43), (47, evF Tryz.prog G0 [] Tryz.f47)] }
theorem g50 : GOK Tryz.prog G50 := GOK.also (GOK.also (GOK.also g0 (inl g0 Tryz.func47 (by kernel_rfl))) (inl g0 Tryz.func43 (by kernel_rfl))) ok80
def F50 : List AV → Tr AV
  | [.slv (.int .u8) es] => .gd (small es.length) (.leaf (.agg [.int .i64 (mbC es), .int .i64 (mbI es)]))
  | _ => .no
theorem ok50 : SumOK Tryz.prog 50 (ofT F50) ∧ SNat (ofT F50) := by
  refine fn0 g50 Tryz.func50 (by kernel_rfl) fun ρ avs k r h => ?_
  unfold F50 at h
  split at h
  · rename_i es
    obtain ⟨hc, hk⟩ := gd_some h
    refine Eq.trans (b := bif small es.length then bif (bd es (0 : Int) (0 : Nat)).fst == (11 : Int) then k (AV.agg [AV.int IntKind.i64 (11 : Int), AV.int IntKind.i64 (-5 : Int)]) else bif (bd es (0 : Int) (0 : Nat)).fst == (1 : Int) then k (AV.agg [AV.int IntKind.i64 (1 : Int), AV.int IntKind.i64 (-6 : Int)]) else k (AV.agg [AV.int IntKind.i64 (0 : Int), AV.int IntKind.i64 (0 : Int)]) else none) (by kernel_rfl) ?_
    rw [← hk, hc]
    unfold mbC mbI
    cases (bd es 0 0).1 == 11 <;> cases (bd es 0 0).1 == 1 <;> rfl
  · cases h
theorem fl_total : ∀ (n : Nat) (s : List UInt8) (f : Int), (fl n s f).1.flatten ++ (fl n s f).2.1 = s
  | 0, s, f => rfl
  | n + 1, s, f => by
    rw [fl_step]
    cases h78 : decide ((s.length : Int) > 78)
    · rfl
    · cases hp : pt s f == 0
      · simp only [cond_true, cond_false, List.flatten_cons, List.append_assoc]
        rw [fl_total n]
        exact List.take_append_drop _ _
      · rfl
theorem flL_total (n v : List UInt8) : (flL n v).flatten = n ++ [58, 32] ++ v := by
  unfold flL
  rw [List.flatten_append, List.flatten_singleton]
  exact fl_total _ _ _
theorem wrL_strs : ∀ l : List (List UInt8), (wrL (strs l)).length = l.flatten.length + 2 * l.length
  | [] => rfl
  | x :: l => by
    have ih := wrL_strs l
    unfold wrL strs at ih ⊢
    rw [List.map_cons, List.flatMap_cons, List.length_append, ih, List.length_append, List.flatten_cons, List.length_append, List.length_cons]
    show (bytesAV x).length + 2 + (l.flatten.length + 2 * l.length) = x.length + l.flatten.length + 2 * (l.length + 1)
    rw [bytesAV_length]
    omega
theorem flL_len (n v : List UInt8) : (flL n v).length ≤ n.length + v.length + 3 := by
  have hle := fl_le (n ++ [58, 32] ++ v).length (n ++ [58, 32] ++ v) ((n.length : Int) + 2)
  have hl : (n ++ [58, 32] ++ v).length = n.length + 2 + v.length := by simp only [List.length_append]; rfl
  unfold flL
  rw [List.length_append]
  show _ + 1 ≤ _
  omega
theorem fdL_small (n v : List UInt8) : (wrL (strs (fdL n v))).length ≤ 13000 := by
  unfold fdL
  cases h1 : fnB n
  · exact Nat.zero_le _
  · cases h4 : decide ((v.length : Int) > 4000)
    · cases vlB v
      · exact Nat.zero_le _
      · cases (findN (longL (flL n v)) (flL n v).length 0).isSome
        · show (wrL (strs (flL n v))).length ≤ _
          have hv4 : v.length ≤ 4000 := by have := of_decide_eq_false h4; omega
          have hn60 : n.length ≤ 60 := by
            unfold fnB at h1
            simp only [Bool.and_eq_true, decide_eq_true_eq] at h1
            omega
          have := flL_len n v
          have hl : (n ++ [58, 32] ++ v).length = n.length + 2 + v.length := by simp only [List.length_append]; rfl
          rw [wrL_strs, flL_total, hl]
          omega
        · exact Nat.zero_le _
    · exact Nat.zero_le _
theorem wrF_small : ∀ es : List AV, (wrF es).length ≤ 13000 * es.length
  | [] => Nat.le_refl _
  | e :: es => by
    have ih := wrF_small es
    have := fdL_small (fN e) (fV e)
    unfold wrF at ih ⊢
    rw [List.flatMap_cons, List.length_append, List.length_cons]
    omega
theorem hv_len {es : List AV} (h : (hvC es == 0) = true) : es.length ≤ 60 := by
  unfold hvC at h
  cases h6 : decide ((es.length : Int) > 60)
  · have := of_decide_eq_false h6; omega
  · rw [h6] at h; cases h
def vdC (es bs : List AV) : Int := bif !(hvC es == 0) then hvC es else bif decide (((wrF es ++ two ++ bs).length : Int) > 12000) then 1 else mbC bs
def vdI (es bs : List AV) : Int := bif !(hvC es == 0) then hvI es else bif decide (((wrF es ++ two ++ bs).length : Int) > 12000) then -4 else mbI bs
noncomputable def G18 : Env := { pure := [(48, ofT F48), (49, ofT F49), (50, ofT F50), (41, evF Tryz.prog G0 [] Tryz.f41), (43, evF Tryz.prog G0 [] Tryz.f43), (47, evF Tryz.prog G0 [] Tryz.f47)] }
theorem g18 : GOK Tryz.prog G18 := GOK.also (GOK.also (GOK.also (GOK.also (GOK.also (GOK.also g0 (inl g0 Tryz.func47 (by kernel_rfl))) (inl g0 Tryz.func43 (by kernel_rfl))) (inl g0 Tryz.func41 (by kernel_rfl))) ok50) ok49) ok48
def F18 : List AV → Tr AV
  | [.agg [.slv (.agg [.str, .str]) es, .slv (.int .u8) bs]] => .gd (small es.length && (es.all okF && decide (bs.length ≤ 141000000000000))) (.leaf (.agg [.int .i64 (vdC es bs), .int .i64 (vdI es bs)]))
  | _ => .no
theorem ok18 : SumOK Tryz.prog 18 (ofT F18) ∧ SNat (ofT F18) := by
  refine fn0 g18 Tryz.func18 (by kernel_rfl) fun ρ avs k r h => ?_
  unfold F18 at h
  split at h
  · rename_i es bs
    obtain ⟨hc, hk⟩ := gd_some h
    simp only [Bool.and_eq_true] at hc
    obtain ⟨hc, hall, hb⟩ := hc
    have hb' : bs.length ≤ 141000000000000 := of_decide_eq_true hb
    refine Eq.trans (b := bif small es.length && es.all okF then bif hvC es != (0 : Int) then k (AV.agg [AV.int IntKind.i64 (hvC es), AV.int IntKind.i64 (hvI es)]) else bif small es.length && (es.all okF && decide ((wrF es).length ≤ (100000000000 : Nat) ∧ bs.length ≤ (141000000000000 : Nat))) then bif decide ((↑(wrF es ++ two ++ bs).length : Int) > (12000 : Int)) then k (AV.agg [AV.int IntKind.i64 (1 : Int), AV.int IntKind.i64 (-4 : Int)]) else bif small bs.length then k (AV.agg [AV.int IntKind.i64 (mbC bs), AV.int IntKind.i64 (mbI bs)]) else none else none else none) (by kernel_rfl) ?_
    rw [← hk, hc, hall]
    unfold vdC vdI
    have hne : (hvC es != 0) = !(hvC es == 0) := rfl
    rw [hne]
    cases h0 : hvC es == 0
    · rfl
    · have h6 := hv_len h0
      have hw := wrF_small es
      rw [decide_eq_true (show (wrF es).length ≤ 100000000000 ∧ bs.length ≤ 141000000000000 from ⟨by omega, hb'⟩), show small bs.length = true from decide_eq_true (by omega)]
      cases decide (((wrF es ++ two ++ bs).length : Int) > 12000) <;> rfl
  · cases h
end Go.Proofs.YthdhfmdhjanoaaaGreatDoor

namespace Go.Proofs.YthdhfmdhjanoaaaGreatDoor
open Go.Ev
theorem strAV_bytes (s : List UInt8) : strAV (bytesAV s) = s := by
  unfold strAV bytesAV
  rw [List.map_map]
  conv => rhs; rw [← List.map_id s]
  refine List.map_congr_left fun b _ => ?_
  show UInt8.ofNat ((b.toNat : Int).toNat) = b
  rw [Int.toNat_natCast, UInt8.ofNat_toNat]
theorem bytes_app (a b : List UInt8) : bytesAV (a ++ b) = bytesAV a ++ bytesAV b := by unfold bytesAV; rw [List.map_append]
def isBU (c : UInt8) : Bool := isB' (c.toNat : Int)
def sqz : List UInt8 → Bool → List UInt8
  | [], _ => []
  | c :: s, p => bif isBU c then (bif p then sqz s true else 32 :: sqz s true) else c :: sqz s false
def sqF (s : List UInt8) : List UInt8 := Lib.trimSuffix (sqz s false) [32]
def lastSp (es : List AV) : Bool := decide ((es.length : Int) > 0) && iE (es.getD (es.length - 1) .unk) == 32
theorem lastSp_app (es : List AV) (c : Int) : lastSp (es ++ [.int .u8 c]) = (c == 32) := by
  unfold lastSp
  rw [List.length_append, List.length_singleton, decide_eq_true (by omega), Bool.true_and, Nat.add_sub_cancel, List.getD_eq_getElem?_getD, List.getElem?_append_right (Nat.le_refl _), Nat.sub_self]
  rfl
theorem drop_str {s : List UInt8} {i : Nat} (h : i < s.length) : s.drop i = s.getD i 0 :: s.drop (i + 1) := by
  rw [List.drop_eq_getElem_cons h, List.getD, List.getElem?_eq_getElem h]; rfl
noncomputable def G82 : Env := { pure := [(102, ofT F102), (103, ofT F103)], conv := true }
theorem g82 : GOK Tryz.prog G82 := GOK.flags (GOK.also (GOK.also g0 ok103) ok102)
noncomputable def b82 : Code := ((Tryz.f82.body.map loopsOf).getD []).headD .skip
def L82 : List AV → List (Option Row) → Tr LOut
  | [.str s, .own 900, .int .i64 n, .int .i64 i], [some (.arr false (.int .u8) e es none)] =>
    .gd (cnt n i s.length && decide (es.length ≤ i.toNat ∧ s.length ≤ 100000000000 ∧ e = 5)) (.leaf (.exit 0, [.str s, .own 900, .int .i64 n, .int .i64 s.length], [some (.arr false (.int .u8) e (es ++ bytesAV (sqz (s.drop i.toNat) (lastSp es))) none)]))
  | _, _ => .no
def l82 : Ev.Loop := ⟨{ len := 37, slots := [0, 3, 8, 9], rows := [900], homes := [(3, 900, 5)] }, ofL L82⟩
def μ82 (vs : List AV) (_ : List (Option Row)) : Nat := match vs with
  | [_, _, .int _ n, .int _ i] => (n - i).toNat
  | _ => 0
theorem loop82 : LoopOK Tryz.prog G82 [(3, l82)] b82 l82 := by
  refine loopT g82.natOK rfl (KOK.nil (by kernel_rfl)) μ82 (fun ρ vs rs k r h => ?_)
  unfold L82 at h
  split at h
  · rename_i s n i e es
    obtain ⟨hc, hk⟩ := gd_some h
    simp only [Bool.and_eq_true] at hc
    obtain ⟨hc, hb0⟩ := hc
    obtain ⟨hb, hb2, rfl⟩ := of_decide_eq_true hb0
    clear hb0
    obtain ⟨rfl, hs, j, rfl, hj⟩ := cnt_spec hc
    rw [Int.toNat_natCast] at hk hb
    refine Eq.trans (b := bif decide ((↑j : Int) < (↑s.length : Int)) then bif inb (↑j : Int) s.length then bif isB' (↑(s.getD j (0 : UInt8)).toNat : Int) then bif decide ((↑es.length : Int) > (0 : Int)) then bif inb (IntKind.i64.wrap ((↑es.length : Int) - (1 : Int))) es.length then bif decide ((IntKind.i64.wrap ((↑es.length : Int) - (1 : Int))).toNat < es.length) then bif (iE (es.getD (IntKind.i64.wrap ((↑es.length : Int) - (1 : Int))).toNat AV.unk)) == (32 : Int) then bif decide (((↑s.length : Int) - IntKind.i64.wrap ((↑j : Int) + (1 : Int))).toNat < ((↑s.length : Int) - (↑j : Int)).toNat) then bif cnt (↑s.length : Int) (IntKind.i64.wrap ((↑j : Int) + (1 : Int))) s.length && decide (es.length ≤ (IntKind.i64.wrap ((↑j : Int) + (1 : Int))).toNat ∧ s.length ≤ (100000000000 : Nat) ∧ (5 : TypeId) = (5 : TypeId)) then k (Ex.exit (0 : Nat)) [AV.str s, AV.own (900 : Nat), AV.int IntKind.i64 (↑s.length : Int), AV.int IntKind.i64 (↑s.length : Int)] [some (Row.arr false (Sh.int IntKind.u8) (5 : Nat) (es ++ bytesAV (sqz (List.drop (IntKind.i64.wrap ((↑j : Int) + (1 : Int))).toNat s) (lastSp es))) none)] else none else none else bif roomB (es.length + [AV.int IntKind.u8 (32 : Int)].length) (Tryz.prog.bytesOf (5 : Nat)) then bif decide (((↑s.length : Int) - IntKind.i64.wrap ((↑j : Int) + (1 : Int))).toNat < ((↑s.length : Int) - (↑j : Int)).toNat) then bif cnt (↑s.length : Int) (IntKind.i64.wrap ((↑j : Int) + (1 : Int))) s.length && decide ((es ++ [AV.int IntKind.u8 (32 : Int)]).length ≤ (IntKind.i64.wrap ((↑j : Int) + (1 : Int))).toNat ∧ s.length ≤ (100000000000 : Nat) ∧ (5 : Nat) = (5 : TypeId)) then k (Ex.exit (0 : Nat)) [AV.str s, AV.own (900 : Nat), AV.int IntKind.i64 (↑s.length : Int), AV.int IntKind.i64 (↑s.length : Int)] [some (Row.arr false (Sh.int IntKind.u8) (5 : Nat) (es ++ [AV.int IntKind.u8 (32 : Int)] ++ bytesAV (sqz (List.drop (IntKind.i64.wrap ((↑j : Int) + (1 : Int))).toNat s) (lastSp (es ++ [AV.int IntKind.u8 (32 : Int)])))) none)] else none else none else none else none else none else bif roomB (es.length + [AV.int IntKind.u8 (32 : Int)].length) (Tryz.prog.bytesOf (5 : Nat)) then bif decide (((↑s.length : Int) - IntKind.i64.wrap ((↑j : Int) + (1 : Int))).toNat < ((↑s.length : Int) - (↑j : Int)).toNat) then bif cnt (↑s.length : Int) (IntKind.i64.wrap ((↑j : Int) + (1 : Int))) s.length && decide ((es ++ [AV.int IntKind.u8 (32 : Int)]).length ≤ (IntKind.i64.wrap ((↑j : Int) + (1 : Int))).toNat ∧ s.length ≤ (100000000000 : Nat) ∧ (5 : Nat) = (5 : TypeId)) then k (Ex.exit (0 : Nat)) [AV.str s, AV.own (900 : Nat), AV.int IntKind.i64 (↑s.length : Int), AV.int IntKind.i64 (↑s.length : Int)] [some (Row.arr false (Sh.int IntKind.u8) (5 : Nat) (es ++ [AV.int IntKind.u8 (32 : Int)] ++ bytesAV (sqz (List.drop (IntKind.i64.wrap ((↑j : Int) + (1 : Int))).toNat s) (lastSp (es ++ [AV.int IntKind.u8 (32 : Int)])))) none)] else none else none else none else bif roomB (es.length + [AV.int IntKind.u8 (↑(s.getD j (0 : UInt8)).toNat : Int)].length) (Tryz.prog.bytesOf (5 : Nat)) then bif decide (((↑s.length : Int) - IntKind.i64.wrap ((↑j : Int) + (1 : Int))).toNat < ((↑s.length : Int) - (↑j : Int)).toNat) then bif cnt (↑s.length : Int) (IntKind.i64.wrap ((↑j : Int) + (1 : Int))) s.length && decide ((es ++ [AV.int IntKind.u8 (↑(s.getD j (0 : UInt8)).toNat : Int)]).length ≤ (IntKind.i64.wrap ((↑j : Int) + (1 : Int))).toNat ∧ s.length ≤ (100000000000 : Nat) ∧ (5 : Nat) = (5 : TypeId)) then k (Ex.exit (0 : Nat)) [AV.str s, AV.own (900 : Nat), AV.int IntKind.i64 (↑s.length : Int), AV.int IntKind.i64 (↑s.length : Int)] [some (Row.arr false (Sh.int IntKind.u8) (5 : Nat) (es ++ [AV.int IntKind.u8 (↑(s.getD j (0 : UInt8)).toNat : Int)] ++ bytesAV (sqz (List.drop (IntKind.i64.wrap ((↑j : Int) + (1 : Int))).toNat s) (lastSp (es ++ [AV.int IntKind.u8 (↑(s.getD j (0 : UInt8)).toNat : Int)])))) none)] else none else none else none else none else k (Ex.exit (0 : Nat)) [AV.str s, AV.own (900 : Nat), AV.int IntKind.i64 (↑s.length : Int), AV.int IntKind.i64 (↑j : Int)] [some (Row.arr false (Sh.int IntKind.u8) (5 : Nat) es none)]) (by kernel_rfl) ?_
    rw [← hk]
    by_cases hlt : j < s.length
    · obtain ⟨e1, e2, e3, e4, e5⟩ := cnt_facts hlt hs
      rw [drop_str hlt]
      generalize hcc : s.getD j (0 : UInt8) = c
      have h1 : ∀ x : AV, (es ++ [x]).length = es.length + 1 := fun x => by rw [List.length_append]; rfl
      have r5 : ∀ x : AV, roomB (es.length + [x].length) (Tryz.prog.bytesOf 5) = true := fun x => room5 (by show _ + 1 ≤ _; omega)
      have g1 : ∀ x : AV, decide ((es ++ [x]).length ≤ j + 1 ∧ s.length ≤ 100000000000 ∧ True) = true := fun x => decide_eq_true ⟨by rw [h1]; omega, hb2, trivial⟩
      have g0' : decide (es.length ≤ j + 1 ∧ s.length ≤ 100000000000 ∧ True) = true := decide_eq_true ⟨by omega, hb2, trivial⟩
      have hz : ∀ p, bytesAV (sqz (c :: s.drop (j + 1)) p) = bif isBU c then (bif p then bytesAV (sqz (s.drop (j + 1)) true) else [AV.int .u8 32] ++ bytesAV (sqz (s.drop (j + 1)) true)) else [AV.int .u8 (c.toNat : Int)] ++ bytesAV (sqz (s.drop (j + 1)) false) := fun p => by
        show bytesAV (bif isBU c then (bif p then sqz (s.drop (j + 1)) true else 32 :: sqz (s.drop (j + 1)) true) else c :: sqz (s.drop (j + 1)) false) = _
        cases isBU c
        · rfl
        · cases p <;> rfl
      rw [hz]
      have hbl : isB' (c.toNat : Int) = isBU c := rfl
      have hp : ∀ x : AV, IntKind.i64.wrap ((es.length : Int) - 1) = ((es.length - 1 : Nat) : Int) ∨ es.length = 0 := fun _ => by
        by_cases h0 : es.length = 0
        · exact .inr h0
        · exact .inl (by rw [wrap_small _ (by omega) (by omega)]; omega)
      simp only [e1, e2, e3, e4, e5, r5, g1, g0', hbl, lastSp_app, cond_true, Int.toNat_natCast, Bool.true_and]
      have t32 : ((32 : Int) == 32) = true := rfl
      cases hB : isBU c
      · have hne : ((c.toNat : Int) == 32) = false := by
          unfold isBU isB' at hB
          simp only [Bool.or_eq_false_iff] at hB
          exact hB.1
        simp only [hne, cond_false, List.append_assoc]
        rfl
      · cases hg : decide ((es.length : Int) > 0)
        · have hl : lastSp es = false := by unfold lastSp; rw [hg]; rfl
          simp only [hl, t32, cond_false, cond_true, List.append_assoc]
          rfl
        · have hpos : 0 < es.length := by have := of_decide_eq_true hg; omega
          rcases hp .unk with hw | h0
          · have hi : inb ((es.length - 1 : Nat) : Int) es.length = true := inb_true (by omega) (by omega)
            have hd : decide (es.length - 1 < es.length) = true := decide_eq_true (by omega)
            have hl : lastSp es = (iE (es.getD (es.length - 1) .unk) == 32) := by unfold lastSp; rw [hg]; rfl
            simp only [hw, hi, hd, Int.toNat_natCast, cond_true, hl, t32]
            cases iE (es.getD (es.length - 1) .unk) == 32
            · simp only [cond_false, List.append_assoc]
              rfl
            · rfl
          · omega
    · obtain rfl : j = s.length := by omega
      rw [decide_eq_false (by omega), List.drop_length]
      show k _ _ _ = k _ _ [some (.arr false (.int .u8) 5 (es ++ []) none)]
      rw [List.append_nil]
  · cases h
def F82 : List AV → Tr AV
  | [.str s] => .gd (decide (s.length ≤ 100000000000)) (.leaf (.str (sqF s)))
  | _ => .no
theorem sqz_len : ∀ (s : List UInt8) (p : Bool), (sqz s p).length ≤ s.length
  | [], _ => Nat.le_refl _
  | c :: s, p => by
    have h1 := sqz_len s true
    have h2 := sqz_len s false
    unfold sqz
    cases isBU c <;> cases p <;> simp only [cond_true, cond_false, List.length_cons] <;> omega
theorem ok82 : SumOK Tryz.prog 82 (ofT F82) ∧ SNat (ofT F82) := by
  refine fn1 (K := [(3, l82)]) (b := b82) (l := l82) g82 Tryz.func82 (by kernel_rfl) (by kernel_rfl) loop82 fun ρ avs k r h => ?_
  unfold F82 at h
  split at h
  · rename_i s
    obtain ⟨hc, hk⟩ := gd_some h
    have hs : s.length ≤ 100000000000 := of_decide_eq_true hc
    refine Eq.trans (b := bif cnt (↑s.length : Int) (0 : Int) s.length && decide (([] : List AV).length ≤ Int.toNat (0 : Int) ∧ s.length ≤ (100000000000 : Nat) ∧ ((3 : Nat), (900 : Nat), (5 : TypeId)).snd.snd = (5 : TypeId)) then bif small (strAV ([] ++ bytesAV (sqz (List.drop (0 : Nat) s) (lastSp [])))).length then k (AV.str (Lib.trimSuffix (strAV ([] ++ bytesAV (sqz (List.drop (0 : Nat) s) (lastSp [])))) ([32] : List UInt8))) else none else none) (by kernel_rfl) ?_
    rw [← hk, List.drop_zero, List.nil_append, strAV_bytes]
    have hl := sqz_len s (lastSp [])
    exact Eq.trans (cond_t (and_t (cnt_zero (decide_eq_true (by omega))) (decide_eq_true ⟨Nat.le_refl _, hs, rfl⟩))) (cond_t (decide_eq_true (by omega)))
  · cases h
theorem trim_len (s p : List UInt8) : (Lib.trimSuffix s p).length ≤ s.length := by
  unfold Lib.trimSuffix
  split
  · rw [List.length_take]; omega
  · exact Nat.le_refl _
theorem sqF_len (s : List UInt8) : (sqF s).length ≤ s.length := Nat.le_trans (trim_len _ _) (sqz_len s false)
noncomputable def G54 : Env := { pure := [(72, ofT F72), (82, ofT F82)] }
theorem g54 : GOK Tryz.prog G54 := GOK.also (GOK.also g0 ok82) ok72
def fldF (n v : List UInt8) : List UInt8 := lowS n ++ [58] ++ sqF v ++ [13, 10]
def F54 : List AV → Tr AV
  | [.agg [.str n, .str v]] => .gd (decide (n.length ≤ 100000000000 ∧ v.length ≤ 100000000000)) (.leaf (.str (fldF n v)))
  | _ => .no
theorem ok54 : SumOK Tryz.prog 54 (ofT F54) ∧ SNat (ofT F54) := by
  refine fn0 g54 Tryz.func54 (by kernel_rfl) fun ρ avs k r h => ?_
  unfold F54 at h
  split at h
  · rename_i n v
    obtain ⟨hc, hk⟩ := gd_some h
    refine Eq.trans (b := bif small n.length then bif lenB ((lowS n).length + ([58] : List UInt8).length) then bif decide (v.length ≤ (100000000000 : Nat)) then bif lenB ((lowS n ++ ([58] : List UInt8)).length + (sqF v).length) then bif lenB ((lowS n ++ ([58] : List UInt8) ++ sqF v).length + ([13, 10] : List UInt8).length) then k (AV.str (lowS n ++ ([58] : List UInt8) ++ sqF v ++ ([13, 10] : List UInt8))) else none else none else none else none else none) (by kernel_rfl) ?_
    rw [← hk]
    obtain ⟨hn, hv⟩ := of_decide_eq_true hc
    have hl : (lowS n).length = n.length := by unfold lowS; rw [List.length_map]
    have hq : (sqF v).length ≤ v.length := Nat.le_trans (sqF_len v) (Nat.le_refl _)
    refine Eq.trans (cond_t (decide_eq_true (by omega))) (Eq.trans (cond_t (decide_eq_true (by show _ + 1 ≤ _; omega))) (Eq.trans (cond_t (decide_eq_true hv)) (Eq.trans (cond_t (decide_eq_true ?_)) (Eq.trans (cond_t (decide_eq_true ?_)) rfl))))
    · rw [List.length_append]; show _ + 1 + _ ≤ _; omega
    · rw [List.length_append, List.length_append]; show _ + 1 + _ + 2 ≤ _; omega
  · cases h
end Go.Proofs.YthdhfmdhjanoaaaGreatDoor
