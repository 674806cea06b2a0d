/-
  slices.stableCmpFunc, slices.SortStableFunc.
-/
import Derived.Test.YtpgaobdgohlegaaClUb
namespace Go.Proofs.Ytpgaobdgohlegaa
open Go.Ev

theorem take_sortAt {a b c : Nat} {es : List AV} (h : c ≤ a) (hab : a ≤ b) (hb : b ≤ es.length) : (sortAt a b es).take c = es.take c := by
  unfold sortAt
  rw [List.append_assoc, List.take_append_of_le_length (by rw [List.length_take]; omega), List.take_take, Nat.min_eq_left h]
theorem drop_sortAt {a b : Nat} {es : List AV} (hab : a ≤ b) (hb : b ≤ es.length) : (sortAt a b es).drop b = es.drop b := by
  unfold sortAt
  have hl : (es.take a ++ sortS ((es.drop a).take (b - a))).length = b := by
    rw [List.length_append, sortS_len, List.length_take, List.length_take, List.length_drop]; omega
  rw [List.drop_append_of_le_length (by omega), List.drop_of_length_le (by omega), List.nil_append]
theorem seg_sortAt {a b : Nat} {es : List AV} (hab : a ≤ b) (hb : b ≤ es.length) : seg a b (sortAt a b es) = sortS (seg a b es) := by
  have := seg_mk (P := es.take a) (A := sortS (seg a b es)) (Q := es.drop b) (a := a) (b := b) (by rw [List.length_take]; omega) (by rw [List.length_take, sortS_len, seg_len hb]; omega)
  exact this.1
theorem seg_drop {a b c : Nat} {l r : List AV} (h : l.drop c = r.drop c) (hc : c ≤ a) : seg a b l = seg a b r := by
  unfold seg
  rw [show l.drop a = (l.drop c).drop (a - c) from by rw [List.drop_drop]; congr 1; omega, show r.drop a = (r.drop c).drop (a - c) from by rw [List.drop_drop]; congr 1; omega, h]
theorem seg_take {a b c : Nat} {l r : List AV} (h : l.take c = r.take c) (hc : b ≤ c) : seg a b l = seg a b r := by
  have key : ∀ l : List AV, seg a b l = seg a b (l.take c) := fun l => by
    unfold seg
    rw [List.drop_take, List.take_take, Nat.min_eq_left (by omega)]
  rw [key l, key r, h]
theorem seg_empty {a b : Nat} {es : List AV} (h : b ≤ a) : seg a b es = [] := by unfold seg; rw [Nat.sub_eq_zero_of_le h]; rfl
def Blk (bs a n : Nat) (es : List AV) : Prop := ∀ k, Dn (seg (a + k * bs) (min (a + (k + 1) * bs) n) es)
noncomputable def blkB (bs a n : Nat) (es : List AV) : Bool := @decide (Blk bs a n es) (Classical.propDecidable _)
theorem blkB_of {bs a n : Nat} {es : List AV} (h : Blk bs a n es) : blkB bs a n es = true := by
  unfold blkB
  exact @decide_eq_true _ (Classical.propDecidable _) h
theorem blkB_to {bs a n : Nat} {es : List AV} (h : blkB bs a n es = true) : Blk bs a n es := by
  unfold blkB at h
  exact @of_decide_eq_true _ (Classical.propDecidable _) h
def st1 (n a : Nat) (es : List AV) : Nat × List AV := if h : a + 20 ≤ n then st1 n (a + 20) (sortAt a (a + 20) es) else (a, es)
termination_by n - a
decreasing_by omega
theorem st1_go {n a : Nat} {es : List AV} (h : a + 20 ≤ n) : st1 n a es = st1 n (a + 20) (sortAt a (a + 20) es) := by rw [st1, dif_pos h]
theorem st1_end {n a : Nat} {es : List AV} (h : ¬ a + 20 ≤ n) : st1 n a es = (a, es) := by rw [st1, dif_neg h]
def mg (n bs a : Nat) (es : List AV) : Nat × List AV := if h : 0 < bs ∧ a + 2 * bs ≤ n then mg n bs (a + 2 * bs) (sortAt a (a + 2 * bs) es) else (a, es)
termination_by n - a
decreasing_by omega
theorem mg_go {n bs a : Nat} {es : List AV} (h0 : 0 < bs) (h : a + 2 * bs ≤ n) : mg n bs a es = mg n bs (a + 2 * bs) (sortAt a (a + 2 * bs) es) := by rw [mg, dif_pos ⟨h0, h⟩]
theorem mg_end {n bs a : Nat} {es : List AV} (h : ¬ a + 2 * bs ≤ n) : mg n bs a es = (a, es) := by rw [mg, dif_neg (fun h' => h h'.2)]
structure Pre (w n a : Nat) (es : List AV) (r : Nat × List AV) : Prop where
  len : r.2.length = es.length
  same : Same es r.2
  take : r.2.take a = es.take a
  lo : a ≤ r.1
  hi : r.1 ≤ n
  last : n < r.1 + w
  step : ∃ j, r.1 = a + j * w
  all : ∀ k, a + (k + 1) * w ≤ r.1 → Dn (seg (a + k * w) (a + (k + 1) * w) r.2)
theorem Pre.next {w n a : Nat} {es : List AV} {r : Nat × List AV} (hl : es.length = n) (h : a + w ≤ n) (P : Pre w n (a + w) (sortAt a (a + w) es) r) : Pre w n a es r := by
  have hw : a ≤ a + w := by omega
  refine ⟨by rw [P.len, sortAt_len hw], (sortAt_same hw).trans P.same, ?_, by have := P.lo; omega, P.hi, P.last, ?_, fun k hk => ?_⟩
  · have := congrArg (List.take a) P.take
    rw [List.take_take, List.take_take, Nat.min_eq_left hw, take_sortAt (Nat.le_refl _) hw (by omega)] at this
    exact this
  · obtain ⟨j, hj⟩ := P.step
    exact ⟨j + 1, by rw [hj, Nat.add_mul]; omega⟩
  · cases k with
    | zero =>
      rw [Nat.zero_mul, Nat.add_zero, Nat.zero_add, Nat.one_mul, seg_take P.take (Nat.le_refl _), seg_sortAt hw (by omega)]
      exact sortS_dn _
    | succ k =>
      have e1 : a + (k + 1) * w = a + w + k * w := by rw [Nat.add_mul]; omega
      have e2 : a + (k + 1 + 1) * w = a + w + (k + 1) * w := by rw [Nat.add_mul (k + 1)]; omega
      rw [e1, e2]
      exact P.all k (by rw [← e2]; exact hk)
theorem st1_pre : ∀ (m n a : Nat) (es : List AV), n - a = m → a ≤ n → es.length = n → Pre 20 n a es (st1 n a es) := by
  intro m
  induction m using Nat.strongRecOn with
  | _ m ih =>
    intro n a es hm ha hl
    by_cases h : a + 20 ≤ n
    · rw [st1_go h]
      exact Pre.next hl h (ih (n - (a + 20)) (by omega) n (a + 20) _ rfl h (by rw [sortAt_len (by omega)]; exact hl))
    · rw [st1_end h]
      exact ⟨rfl, Same.refl _, rfl, Nat.le_refl _, ha, by show n < a + 20; omega, ⟨0, by simp⟩, fun k hk => by exfalso; have : a + (k + 1) * 20 ≤ a := hk; omega⟩
theorem blk_next {bs a n : Nat} {es : List AV} (hl : es.length = n) (h0 : 0 < bs) (h : a + 2 * bs ≤ n) (B : Blk bs a n es) : Blk bs (a + 2 * bs) n (sortAt a (a + 2 * bs) es) := fun k => by
  have := B (k + 2)
  have e1 : a + (k + 2) * bs = a + 2 * bs + k * bs := by rw [Nat.add_mul]; omega
  have e2 : a + (k + 2 + 1) * bs = a + 2 * bs + (k + 1) * bs := by rw [show k + 2 + 1 = (k + 1) + 2 from rfl, Nat.add_mul]; omega
  rw [e1, e2] at this
  rw [seg_drop (drop_sortAt (es := es) (by omega : a ≤ a + 2 * bs) (by omega)) (by omega)]
  exact this
theorem blk_two {bs a n : Nat} {es : List AV} (B : Blk bs a n es) (h : a + 2 * bs ≤ n) : Dn (seg a (a + bs) es) ∧ Dn (seg (a + bs) (a + 2 * bs) es) := by
  have h0 := B 0
  have h1 := B 1
  rw [Nat.zero_mul, Nat.add_zero, Nat.zero_add, Nat.one_mul, Nat.min_eq_left (by omega)] at h0
  rw [Nat.one_mul, show (1 + 1) * bs = 2 * bs from rfl, Nat.min_eq_left h] at h1
  exact ⟨h0, h1⟩
theorem mg_pre {bs : Nat} (h0 : 0 < bs) : ∀ (m n a : Nat) (es : List AV), n - a = m → a ≤ n → es.length = n → Blk bs a n es → Pre (2 * bs) n a es (mg n bs a es) ∧ Blk bs (mg n bs a es).1 n (mg n bs a es).2 := by
  intro m
  induction m using Nat.strongRecOn with
  | _ m ih =>
    intro n a es hm ha hl hB
    by_cases h : a + 2 * bs ≤ n
    · rw [mg_go h0 h]
      obtain ⟨i1, i2⟩ := ih (n - (a + 2 * bs)) (by omega) n (a + 2 * bs) (sortAt a (a + 2 * bs) es) rfl h (by rw [sortAt_len (by omega)]; exact hl) (blk_next hl h0 h hB)
      exact ⟨Pre.next hl h i1, i2⟩
    · rw [mg_end h]
      exact ⟨⟨rfl, Same.refl _, rfl, Nat.le_refl _, ha, by show n < a + 2 * bs; omega, ⟨0, by simp⟩, fun k hk => by
        exfalso
        have h1 : a + (k + 1) * (2 * bs) ≤ a := hk
        have : 0 < (k + 1) * (2 * bs) := Nat.mul_pos (by omega) (by omega)
        omega⟩, hB⟩
/-- The last part is put in order too. -/
theorem blk_all {w n : Nat} {es es' : List AV} {r : Nat × List AV} (hw : 0 < w) (hl : es.length = n) (P : Pre w n 0 es r) (ht : es'.take r.1 = r.2.take r.1) (hd : Dn (seg r.1 n es')) : Blk w 0 n es' := fun k => by
  obtain ⟨j, hj⟩ := P.step
  rw [Nat.zero_add] at hj
  rw [Nat.zero_add, Nat.zero_add]
  have hhi := P.hi
  have hlast := P.last
  rcases Nat.lt_trichotomy k j with h | rfl | h
  · have hle : (k + 1) * w ≤ r.1 := by rw [hj]; exact Nat.mul_le_mul_right _ h
    rw [Nat.min_eq_left (by omega), seg_take ht hle]
    have := P.all k (by rw [Nat.zero_add]; exact hle)
    rw [Nat.zero_add, Nat.zero_add] at this
    exact this
  · rw [← hj, Nat.min_eq_right (by rw [Nat.add_mul, ← hj]; omega)]
    exact hd
  · have : (j + 1) * w ≤ k * w := Nat.mul_le_mul_right _ h
    rw [Nat.add_mul, ← hj] at this
    rw [seg_empty (by omega)]
    exact List.Pairwise.nil
noncomputable def GV : Env := { pure := [(25, ofT F25)], opens := [(46, ofX (FS46 1000)), (45, ofX FS45)] }
theorem gV : GOK Try.prog GV := GOK.alsoX (GOK.alsoX gS okS45) (okS46 1000)
def LS40 : List AV → List (Option Row) → Tr LOut
  | [.own p, .int .i64 n, .fn 25 [], .int .i64 s, .int .i64 a, .int .i64 b], [some (.arr false (.int .i64) e es sp)] => .gd (Nat.beq p PID && (decide (s = 20 ∧ 0 ≤ a ∧ b = a + 20 ∧ n = es.length ∧ a ≤ n ∧ n ≤ 1000) && okL es)) (.leaf (.exit 0, [.own PID, .int .i64 n, .fn 25 [], .int .i64 20, .int .i64 ((st1 n.toNat a.toNat es).1 : Nat), .int .i64 (((st1 n.toNat a.toNat es).1 : Nat) + 20)], [some (.arr false (.int .i64) e (st1 n.toNat a.toNat es).2 (bif decide (a + 20 ≤ n) then none else sp))]))
  | _, _ => .no
def ls40 : Ev.Loop := ⟨{ len := 63, slots := [0, 1, 2, 6, 7, 8], rows := [PID] }, ofL LS40⟩
noncomputable def NS40 : List AV → List (Option Row) → Tr LOut
  | [.own p, .int .i64 n, .fn 25 [], .int .i64 s, .int .i64 a, .int .i64 b], [some (.arr false (.int .i64) e es sp)] => .gd (Nat.beq p PID && (decide (0 < s ∧ s ≤ 2000 ∧ 0 ≤ a ∧ b = a + 2 * s ∧ n = es.length ∧ a ≤ n ∧ n ≤ 1000) && (okL es && blkB s.toNat a.toNat n.toNat es))) (.leaf (.exit 4, [.own PID, .int .i64 n, .fn 25 [], .int .i64 s, .int .i64 ((mg n.toNat s.toNat a.toNat es).1 : Nat), .int .i64 (((mg n.toNat s.toNat a.toNat es).1 : Nat) + 2 * s)], [some (.arr false (.int .i64) e (mg n.toNat s.toNat a.toNat es).2 (bif decide (a + 2 * s ≤ n) then none else sp))]))
  | _, _ => .no
noncomputable def ns40 : Ev.Loop := ⟨{ len := 63, slots := [0, 1, 2, 6, 7, 8], rows := [PID] }, ofL NS40⟩
def dbl (n bs : Nat) : Nat := if h : 0 < bs ∧ bs < n then dbl n (bs * 2) else bs
termination_by n - bs
decreasing_by omega
theorem dbl_go {n bs : Nat} (h0 : 0 < bs) (h : bs < n) : dbl n bs = dbl n (bs * 2) := by rw [dbl, dif_pos ⟨h0, h⟩]
theorem dbl_end {n bs : Nat} (h : ¬ bs < n) : dbl n bs = bs := by rw [dbl, dif_neg (fun h' => h h'.2)]
noncomputable def MS40 : List AV → List (Option Row) → Tr LOut
  | [.own p, .int .i64 n, .fn 25 [], .int .i64 s], [some (.arr false (.int .i64) e es sp)] => .gd (Nat.beq p PID && (decide (0 < s ∧ s ≤ 2000 ∧ n = es.length ∧ n ≤ 1000) && (okL es && blkB s.toNat 0 n.toNat es))) (.leaf (.exit 2, [.own PID, .int .i64 n, .fn 25 [], .int .i64 (dbl n.toNat s.toNat : Nat)], [some (.arr false (.int .i64) e (sortS es) (bif decide (s < n) then none else sp))]))
  | _, _ => .no
noncomputable def ms40 : Ev.Loop := ⟨{ len := 63, slots := [0, 1, 2, 6], rows := [PID] }, ofL MS40⟩
noncomputable def KV : List (Nat × Ev.Loop) := [(2, ls40), (7, ms40), (9, ns40)]
def μV (vs : List AV) (_ : List (Option Row)) : Nat := match vs with
  | [_, .int _ n, _, _, .int _ a, _] => (n - a).toNat
  | [_, .int _ n, _, .int _ s] => (n - s).toNat
  | _ => 0
theorem loopV1 : LoopOK Try.prog GV KV b40 ls40 := by
  refine loopT gV.natOK rfl (KOK.nil (by kernel_rfl)) μV (fun ρ vs rs k r h => ?_)
  unfold LS40 at h
  split at h
  · rename_i p n' s a' b' e es sp
    obtain ⟨hc, hk⟩ := gd_some h
    clear h
    simp only [Bool.and_eq_true] at hc
    obtain ⟨hp, hc, hok⟩ := hc
    obtain rfl := Nat.eq_of_beq_eq_true hp
    clear hp
    obtain ⟨rfl, c2, rfl, rfl, c5, c6⟩ := of_decide_eq_true hc
    obtain ⟨a, rfl⟩ : ∃ a : Nat, a' = a := ⟨a'.toNat, by omega⟩
    simp only [Int.toNat_natCast] at hk
    refine Eq.trans (b := bif decide ((↑a : Int) + (20 : Int) ≤ (↑es.length : Int)) then bif ((fun x => PID + x) (0 : Nat)).beq PID && (decide ((0 : Int) ≤ (↑a : Int) ∧ (↑a : Int) ≤ (↑a : Int) + (20 : Int) ∧ (↑a : Int) + (20 : Int) ≤ (↑es.length : Int) ∧ es.length ≤ (1000 : Nat)) && okL es) then bif decide (((↑es.length : Int) - ((↑a : Int) + (20 : Int))).toNat < ((↑es.length : Int) - (↑a : Int)).toNat) then bif PID.beq PID && (decide ((20 : Int) = (20 : Int) ∧ (0 : Int) ≤ (↑a : Int) + (20 : Int) ∧ IntKind.i64.wrap ((↑a : Int) + (20 : Int) + (20 : Int)) = (↑a : Int) + (20 : Int) + (20 : Int) ∧ (↑es.length : Int) = (↑(sortAt a ((↑a : Int) + (20 : Int)).toNat es).length : Int) ∧ (↑a : Int) + (20 : Int) ≤ (↑es.length : Int) ∧ (↑es.length : Int) ≤ (1000 : Int)) && okL (sortAt a ((↑a : Int) + (20 : Int)).toNat es)) then k (Ex.exit (0 : Nat)) [AV.own (1125899906842624 : Nat), AV.int IntKind.i64 (↑es.length : Int), AV.fn (25 : Nat) [], AV.int IntKind.i64 (20 : Int), AV.int IntKind.i64 (↑(st1 (↑es.length : Int).toNat ((↑a : Int) + (20 : Int)).toNat (sortAt a ((↑a : Int) + (20 : Int)).toNat es)).fst : Int), AV.int IntKind.i64 ((↑(st1 (↑es.length : Int).toNat ((↑a : Int) + (20 : Int)).toNat (sortAt a ((↑a : Int) + (20 : Int)).toNat es)).fst : Int) + (20 : Int))] [some (Row.arr false (Sh.int IntKind.i64) e (st1 (↑es.length : Int).toNat ((↑a : Int) + (20 : Int)).toNat (sortAt a ((↑a : Int) + (20 : Int)).toNat es)).snd (bif decide ((↑a : Int) + (20 : Int) + (20 : Int) ≤ (↑es.length : Int)) then none else none))] else none else none else none else k (Ex.exit (0 : Nat)) [AV.own (1125899906842624 : Nat), AV.int IntKind.i64 (↑es.length : Int), AV.fn (25 : Nat) [], AV.int IntKind.i64 (20 : Int), AV.int IntKind.i64 (↑a : Int), AV.int IntKind.i64 ((↑a : Int) + (20 : Int))] [some (Row.arr false (Sh.int IntKind.i64) e es sp)]) (by kernel_rfl) ?_
    rw [← hk, Nat.beq_refl]
    have hb : ((fun x => PID + x) 0).beq PID = true := Nat.beq_refl PID
    have hn : ∀ c : Bool, (bif c then (none : Option (List AV)) else none) = none := fun c => by cases c <;> rfl
    by_cases hlt : a + 20 ≤ es.length
    · have hl := sortAt_len (a := a) (b := a + 20) (es := es) (by omega)
      have hok2 := okL_same (sortAt_same (a := a) (b := a + 20) (es := es) (by omega)) hok
      have w1 : IntKind.i64.wrap ((a : Int) + 20 + 20) = (a : Int) + 20 + 20 := wrap_mid _ (by omega) (by omega)
      rw [st1_go (n := es.length) (a := a) (es := es) hlt, w1, show ((a : Int) + 20).toNat = a + 20 from by omega, decide_eq_true (by omega : (a : Int) + 20 ≤ (es.length : Int))]
      rw [Int.toNat_natCast]
      refine Eq.trans (cond_t rfl) (Eq.trans (cond_t (and_t hb (and_t (decide_eq_true ⟨by omega, by omega, by omega, by omega⟩) hok))) (Eq.trans (cond_t (decide_eq_true (by omega))) (Eq.trans (cond_t (and_t rfl (and_t (decide_eq_true ⟨rfl, by omega, rfl, by omega, by omega, by omega⟩) hok2))) ?_)))
      simp only [hn]
      rfl
    · rw [st1_end hlt, decide_eq_false (by omega : ¬ (a : Int) + 20 ≤ (es.length : Int))]
      rfl
  · cases h
theorem loopV3 : LoopOK Try.prog GV KV d40 ns40 := by
  refine loopT gV.natOK rfl (KOK.nil (by kernel_rfl)) μV (fun ρ vs rs k r h => ?_)
  unfold NS40 at h
  split at h
  · rename_i p n' s' a' b' e es sp
    obtain ⟨hc, hk⟩ := gd_some h
    clear h
    simp only [Bool.and_eq_true] at hc
    obtain ⟨hp, hc, hok, hB⟩ := hc
    obtain rfl := Nat.eq_of_beq_eq_true hp
    clear hp
    obtain ⟨c0, c1, c2, rfl, rfl, c5, c6⟩ := of_decide_eq_true hc
    obtain ⟨a, rfl⟩ : ∃ a : Nat, a' = a := ⟨a'.toNat, by omega⟩
    obtain ⟨s, rfl⟩ : ∃ a : Nat, s' = a := ⟨s'.toNat, by omega⟩
    simp only [Int.toNat_natCast] at hk hB
    refine Eq.trans (b := bif decide ((↑a : Int) + (2 : Int) * (↑s : Int) ≤ (↑es.length : Int)) then bif ((fun x => PID + x) (0 : Nat)).beq PID && (decide ((0 : Int) ≤ (↑a : Int) ∧ (↑a : Int) < IntKind.i64.wrap ((↑a : Int) + (↑s : Int)) ∧ IntKind.i64.wrap ((↑a : Int) + (↑s : Int)) < (↑a : Int) + (2 : Int) * (↑s : Int) ∧ (↑a : Int) + (2 : Int) * (↑s : Int) ≤ (↑es.length : Int) ∧ es.length ≤ (1000 : Nat) ∧ (↑a : Int) + (2 : Int) * (↑s : Int) - (↑a : Int) ≤ (↑(1000 : Nat) : Int)) && (okL es && (dnB a (IntKind.i64.wrap ((↑a : Int) + (↑s : Int))).toNat es && dnB (IntKind.i64.wrap ((↑a : Int) + (↑s : Int))).toNat ((↑a : Int) + (2 : Int) * (↑s : Int)).toNat es))) then bif decide (((↑es.length : Int) - ((↑a : Int) + (2 : Int) * (↑s : Int))).toNat < ((↑es.length : Int) - (↑a : Int)).toNat) then bif PID.beq PID && (decide ((0 : Int) < (↑s : Int) ∧ (↑s : Int) ≤ (2000 : Int) ∧ (0 : Int) ≤ (↑a : Int) + (2 : Int) * (↑s : Int) ∧ IntKind.i64.wrap ((↑a : Int) + (2 : Int) * (↑s : Int) + IntKind.i64.wrap ((2 : Int) * (↑s : Int))) = (↑a : Int) + (2 : Int) * (↑s : Int) + (2 : Int) * (↑s : Int) ∧ (↑es.length : Int) = (↑(sortAt a ((↑a : Int) + (2 : Int) * (↑s : Int)).toNat es).length : Int) ∧ (↑a : Int) + (2 : Int) * (↑s : Int) ≤ (↑es.length : Int) ∧ (↑es.length : Int) ≤ (1000 : Int)) && (okL (sortAt a ((↑a : Int) + (2 : Int) * (↑s : Int)).toNat es) && blkB s ((↑a : Int) + (2 : Int) * (↑s : Int)).toNat (↑es.length : Int).toNat (sortAt a ((↑a : Int) + (2 : Int) * (↑s : Int)).toNat es))) then k (Ex.exit (4 : Nat)) [AV.own (1125899906842624 : Nat), AV.int IntKind.i64 (↑es.length : Int), AV.fn (25 : Nat) [], AV.int IntKind.i64 (↑s : Int), AV.int IntKind.i64 (↑(mg (↑es.length : Int).toNat s ((↑a : Int) + (2 : Int) * (↑s : Int)).toNat (sortAt a ((↑a : Int) + (2 : Int) * (↑s : Int)).toNat es)).fst : Int), AV.int IntKind.i64 ((↑(mg (↑es.length : Int).toNat s ((↑a : Int) + (2 : Int) * (↑s : Int)).toNat (sortAt a ((↑a : Int) + (2 : Int) * (↑s : Int)).toNat es)).fst : Int) + (2 : Int) * (↑s : Int))] [some (Row.arr false (Sh.int IntKind.i64) e (mg (↑es.length : Int).toNat s ((↑a : Int) + (2 : Int) * (↑s : Int)).toNat (sortAt a ((↑a : Int) + (2 : Int) * (↑s : Int)).toNat es)).snd (bif decide ((↑a : Int) + (2 : Int) * (↑s : Int) + (2 : Int) * (↑s : Int) ≤ (↑es.length : Int)) then none else none))] else none else none else none else k (Ex.exit (4 : Nat)) [AV.own (1125899906842624 : Nat), AV.int IntKind.i64 (↑es.length : Int), AV.fn (25 : Nat) [], AV.int IntKind.i64 (↑s : Int), AV.int IntKind.i64 (↑a : Int), AV.int IntKind.i64 ((↑a : Int) + (2 : Int) * (↑s : Int))] [some (Row.arr false (Sh.int IntKind.i64) e es sp)]) (by kernel_rfl) ?_
    rw [← hk, Nat.beq_refl]
    have hb : ((fun x => PID + x) 0).beq PID = true := Nat.beq_refl PID
    have hn : ∀ c : Bool, (bif c then (none : Option (List AV)) else none) = none := fun c => by cases c <;> rfl
    by_cases hlt : a + 2 * s ≤ es.length
    · have hl := sortAt_len (a := a) (b := a + 2 * s) (es := es) (by omega)
      have hok2 := okL_same (sortAt_same (a := a) (b := a + 2 * s) (es := es) (by omega)) hok
      have hBk := blkB_to hB
      obtain ⟨d1, d2⟩ := blk_two hBk hlt
      have hB2 := blkB_of (blk_next rfl (by omega) hlt hBk)
      have w0 : IntKind.i64.wrap (2 * (s : Int)) = 2 * (s : Int) := wrap_mid _ (by omega) (by omega)
      have w1 : IntKind.i64.wrap ((a : Int) + 2 * (s : Int) + 2 * (s : Int)) = (a : Int) + 2 * (s : Int) + 2 * (s : Int) := wrap_mid _ (by omega) (by omega)
      have w2 : IntKind.i64.wrap ((a : Int) + (s : Int)) = ((a + s : Nat) : Int) := by rw [wrap_mid _ (by omega) (by omega)]; omega
      rw [mg_go (n := es.length) (bs := s) (a := a) (es := es) (by omega) hlt, w0, w1, w2, show ((a : Int) + 2 * (s : Int)).toNat = a + 2 * s from by omega, decide_eq_true (by omega : (a : Int) + 2 * (s : Int) ≤ (es.length : Int))]
      rw [Int.toNat_natCast]
      refine Eq.trans (cond_t rfl) (Eq.trans (cond_t (and_t hb (and_t (decide_eq_true ⟨by omega, by omega, by omega, by omega, by omega, by omega⟩) (and_t hok (and_t (dnB_of d1) (dnB_of d2)))))) (Eq.trans (cond_t (decide_eq_true (by omega))) (Eq.trans (cond_t (and_t rfl (and_t (decide_eq_true ⟨by omega, by omega, by omega, rfl, by omega, by omega, by omega⟩) (and_t hok2 hB2)))) ?_)))
      simp only [hn]
      rfl
    · rw [mg_end hlt, decide_eq_false (by omega : ¬ (a : Int) + 2 * (s : Int) ≤ (es.length : Int))]
      rfl
  · cases h
theorem loopV2 : LoopOK Try.prog GV KV c40 ms40 := by
  refine loopT gV.natOK rfl (KOK.one (b := d40) (by kernel_rfl) (by kernel_rfl) loopV3) μV (fun ρ vs rs k r h => ?_)
  unfold MS40 at h
  split at h
  · rename_i p n' s' e es sp
    obtain ⟨hc, hk⟩ := gd_some h
    clear h
    simp only [Bool.and_eq_true] at hc
    obtain ⟨hp, hc, hok, hB⟩ := hc
    obtain rfl := Nat.eq_of_beq_eq_true hp
    clear hp
    obtain ⟨c0, c1, rfl, c6⟩ := of_decide_eq_true hc
    obtain ⟨s, rfl⟩ : ∃ a : Nat, s' = a := ⟨s'.toNat, by omega⟩
    simp only [Int.toNat_natCast] at hk hB
    refine Eq.trans (b := bif decide ((↑s : Int) < (↑es.length : Int)) then bif PID.beq PID && (decide ((0 : Int) < (↑s : Int) ∧ (↑s : Int) ≤ (2000 : Int) ∧ (0 : Int) ≤ (0 : Int) ∧ IntKind.i64.wrap ((2 : Int) * (↑s : Int)) = (0 : Int) + (2 : Int) * (↑s : Int) ∧ (↑es.length : Int) = (↑es.length : Int) ∧ (0 : Int) ≤ (↑es.length : Int) ∧ (↑es.length : Int) ≤ (1000 : Int)) && (okL es && blkB s (0 : Nat) (↑es.length : Int).toNat es)) then bif decide (IntKind.i64.wrap ((↑(mg (↑es.length : Int).toNat s (0 : Nat) es).fst : Int) + (↑s : Int)) < (↑es.length : Int)) then bif ((fun x => PID + x) (0 : Nat)).beq PID && (decide ((0 : Int) ≤ (↑(mg (↑es.length : Int).toNat s (0 : Nat) es).fst : Int) ∧ (↑(mg (↑es.length : Int).toNat s (0 : Nat) es).fst : Int) < IntKind.i64.wrap ((↑(mg (↑es.length : Int).toNat s (0 : Nat) es).fst : Int) + (↑s : Int)) ∧ IntKind.i64.wrap ((↑(mg (↑es.length : Int).toNat s (0 : Nat) es).fst : Int) + (↑s : Int)) < (↑es.length : Int) ∧ (↑es.length : Int) ≤ (↑(mg (↑es.length : Int).toNat s (0 : Nat) es).snd.length : Int) ∧ (mg (↑es.length : Int).toNat s (0 : Nat) es).snd.length ≤ (1000 : Nat) ∧ (↑es.length : Int) - (↑(mg (↑es.length : Int).toNat s (0 : Nat) es).fst : Int) ≤ (↑(1000 : Nat) : Int)) && (okL (mg (↑es.length : Int).toNat s (0 : Nat) es).snd && (dnB (↑(mg (↑es.length : Int).toNat s (0 : Nat) es).fst : Int).toNat (IntKind.i64.wrap ((↑(mg (↑es.length : Int).toNat s (0 : Nat) es).fst : Int) + (↑s : Int))).toNat (mg (↑es.length : Int).toNat s (0 : Nat) es).snd && dnB (IntKind.i64.wrap ((↑(mg (↑es.length : Int).toNat s (0 : Nat) es).fst : Int) + (↑s : Int))).toNat (↑es.length : Int).toNat (mg (↑es.length : Int).toNat s (0 : Nat) es).snd))) then bif decide (((↑es.length : Int) - IntKind.i64.wrap ((↑s : Int) * (2 : Int))).toNat < ((↑es.length : Int) - (↑s : Int)).toNat) then bif PID.beq PID && (decide ((0 : Int) < IntKind.i64.wrap ((↑s : Int) * (2 : Int)) ∧ IntKind.i64.wrap ((↑s : Int) * (2 : Int)) ≤ (2000 : Int) ∧ (↑es.length : Int) = (↑(sortAt (↑(mg (↑es.length : Int).toNat s (0 : Nat) es).fst : Int).toNat (↑es.length : Int).toNat (mg (↑es.length : Int).toNat s (0 : Nat) es).snd).length : Int) ∧ (↑es.length : Int) ≤ (1000 : Int)) && (okL (sortAt (↑(mg (↑es.length : Int).toNat s (0 : Nat) es).fst : Int).toNat (↑es.length : Int).toNat (mg (↑es.length : Int).toNat s (0 : Nat) es).snd) && blkB (IntKind.i64.wrap ((↑s : Int) * (2 : Int))).toNat (0 : Nat) (↑es.length : Int).toNat (sortAt (↑(mg (↑es.length : Int).toNat s (0 : Nat) es).fst : Int).toNat (↑es.length : Int).toNat (mg (↑es.length : Int).toNat s (0 : Nat) es).snd))) then k (Ex.exit (2 : Nat)) [AV.own (1125899906842624 : Nat), AV.int IntKind.i64 (↑es.length : Int), AV.fn (25 : Nat) [], AV.int IntKind.i64 (↑(dbl (↑es.length : Int).toNat (IntKind.i64.wrap ((↑s : Int) * (2 : Int))).toNat) : Int)] [some (Row.arr false (Sh.int IntKind.i64) e (sortS (sortAt (↑(mg (↑es.length : Int).toNat s (0 : Nat) es).fst : Int).toNat (↑es.length : Int).toNat (mg (↑es.length : Int).toNat s (0 : Nat) es).snd)) (bif decide (IntKind.i64.wrap ((↑s : Int) * (2 : Int)) < (↑es.length : Int)) then none else none))] else none else none else none else bif decide (((↑es.length : Int) - IntKind.i64.wrap ((↑s : Int) * (2 : Int))).toNat < ((↑es.length : Int) - (↑s : Int)).toNat) then bif PID.beq PID && (decide ((0 : Int) < IntKind.i64.wrap ((↑s : Int) * (2 : Int)) ∧ IntKind.i64.wrap ((↑s : Int) * (2 : Int)) ≤ (2000 : Int) ∧ (↑es.length : Int) = (↑(mg (↑es.length : Int).toNat s (0 : Nat) es).snd.length : Int) ∧ (↑es.length : Int) ≤ (1000 : Int)) && (okL (mg (↑es.length : Int).toNat s (0 : Nat) es).snd && blkB (IntKind.i64.wrap ((↑s : Int) * (2 : Int))).toNat (0 : Nat) (↑es.length : Int).toNat (mg (↑es.length : Int).toNat s (0 : Nat) es).snd)) then k (Ex.exit (2 : Nat)) [AV.own (1125899906842624 : Nat), AV.int IntKind.i64 (↑es.length : Int), AV.fn (25 : Nat) [], AV.int IntKind.i64 (↑(dbl (↑es.length : Int).toNat (IntKind.i64.wrap ((↑s : Int) * (2 : Int))).toNat) : Int)] [some (Row.arr false (Sh.int IntKind.i64) e (sortS (mg (↑es.length : Int).toNat s (0 : Nat) es).snd) (bif decide (IntKind.i64.wrap ((↑s : Int) * (2 : Int)) < (↑es.length : Int)) then none else bif decide ((0 : Int) + (2 : Int) * (↑s : Int) ≤ (↑es.length : Int)) then none else sp))] else none else none else none else k (Ex.exit (2 : Nat)) [AV.own (1125899906842624 : Nat), AV.int IntKind.i64 (↑es.length : Int), AV.fn (25 : Nat) [], AV.int IntKind.i64 (↑s : Int)] [some (Row.arr false (Sh.int IntKind.i64) e es sp)]) (by kernel_rfl) ?_
    rw [← hk, Nat.beq_refl]
    have hb : ((fun x => PID + x) 0).beq PID = true := Nat.beq_refl PID
    have hn : ∀ c : Bool, (bif c then (none : Option (List AV)) else none) = none := fun c => by cases c <;> rfl
    have hBk := blkB_to hB
    by_cases hlt : s < es.length
    · obtain ⟨P, hB3⟩ := mg_pre (bs := s) (by omega) _ es.length 0 es rfl (by omega) rfl hBk
      have w0 : IntKind.i64.wrap (2 * (s : Int)) = 0 + 2 * (s : Int) := by rw [wrap_mid _ (by omega) (by omega)]; omega
      have w1 : IntKind.i64.wrap ((s : Int) * 2) = ((s * 2 : Nat) : Int) := by rw [wrap_mid _ (by omega) (by omega)]; omega
      have hl := P.len
      have hhi := P.hi
      have hlast := P.last
      have hok1 := okL_same P.same hok
      have hzero : es.length < 2 * s → (mg es.length s 0 es).1 = 0 := fun h => by rw [mg_end (by omega)]
      rw [dbl_go (n := es.length) (bs := s) (by omega) hlt, decide_eq_true (by omega : (s : Int) < (es.length : Int)), w0, w1]
      rw [Int.toNat_natCast, Int.toNat_natCast]
      generalize mg es.length s 0 es = R at P hB3 hl hhi hlast hok1 hzero
      have w2 : IntKind.i64.wrap ((R.1 : Int) + (s : Int)) = ((R.1 + s : Nat) : Int) := by rw [wrap_mid _ (by omega) (by omega)]; omega
      rw [w2, Int.toNat_natCast, Int.toNat_natCast]
      refine Eq.trans (cond_t rfl) (Eq.trans (cond_t (and_t rfl (and_t (decide_eq_true ⟨by omega, by omega, by omega, rfl, rfl, by omega, by omega⟩) (and_t hok hB)))) ?_)
      by_cases ht : R.1 + s < es.length
      · have h0 := hB3 0
        have h1 := hB3 1
        rw [Nat.zero_mul, Nat.add_zero, Nat.zero_add, Nat.one_mul, Nat.min_eq_left (by omega)] at h0
        rw [Nat.one_mul, show (1 + 1) * s = 2 * s from rfl, Nat.min_eq_right (by omega)] at h1
        have hl2 := sortAt_len (a := R.1) (b := es.length) (es := R.2) (by omega)
        have hsm := sortAt_same (a := R.1) (b := es.length) (es := R.2) (by omega)
        have hok2 := okL_same hsm hok1
        have hB2 := blkB_of (blk_all (es' := sortAt R.1 es.length R.2) (by omega : 0 < 2 * s) rfl P (take_sortAt (Nat.le_refl _) (by omega) (by omega)) (by rw [seg_sortAt (by omega) (by omega)]; exact sortS_dn _))
        rw [Nat.mul_comm 2 s] at hB2
        refine Eq.trans (cond_t (decide_eq_true (by omega))) (Eq.trans (cond_t (and_t hb (and_t (decide_eq_true ⟨by omega, by omega, by omega, by omega, by omega, by omega⟩) (and_t hok1 (and_t (dnB_of h0) (dnB_of h1)))))) (Eq.trans (cond_t (decide_eq_true (by omega))) (Eq.trans (cond_t (and_t rfl (and_t (decide_eq_true ⟨by omega, by omega, by omega, by omega⟩) (and_t hok2 hB2)))) ?_)))
        rw [← sortS_congr (P.same.trans hsm)]
        simp only [hn]
        rfl
      · have h0 := hB3 0
        rw [Nat.zero_mul, Nat.add_zero, Nat.zero_add, Nat.one_mul, Nat.min_eq_right (by omega)] at h0
        have hB2 := blkB_of (blk_all (es' := R.2) (by omega : 0 < 2 * s) rfl P rfl h0)
        rw [Nat.mul_comm 2 s] at hB2
        have hsp : decide (0 + 2 * (s : Int) ≤ (es.length : Int)) = true := decide_eq_true (by
          by_cases h2 : es.length < 2 * s
          · have := hzero h2; omega
          · omega)
        rw [hsp]
        refine Eq.trans (cond_f (decide_eq_false (by omega))) (Eq.trans (cond_t (decide_eq_true (by omega))) (Eq.trans (cond_t (and_t rfl (and_t (decide_eq_true ⟨by omega, by omega, by omega, by omega⟩) (and_t hok1 hB2)))) ?_))
        rw [← sortS_congr P.same]
        simp only [cond_true, hn]
        rfl
    · have h0 := hBk 0
      rw [Nat.zero_mul, Nat.add_zero, Nat.zero_add, Nat.zero_add, Nat.one_mul, Nat.min_eq_right (by omega)] at h0
      have hd : Dn es := by
        have : seg 0 es.length es = es := by unfold seg; simp
        rw [this] at h0; exact h0
      rw [dbl_end hlt, decide_eq_false (by omega : ¬ (s : Int) < (es.length : Int)), sortS_fix hd]
      rfl
  · cases h
def FS40 : List AV → List Row → Tr XOut
  | [.own p, .int .i64 n, .fn 25 []], [.arr false (.int .i64) e es _] => .gd (Nat.beq p PID && (decide (n = es.length ∧ n ≤ 1000) && okL es)) (.leaf (.tup [], [some (.arr false (.int .i64) e (sortS es) none)], []))
  | _, _ => .no
theorem okS40 : XOK Try.prog 40 (ofX FS40) ∧ XNat (ofX FS40) := by
  refine ⟨xsums (K := KV) (H := []) (bs := [b40, c40, d40]) gV Try.func40 (by kernel_rfl) (fun b hb => ?_) fun ρ avs rows k r h => ?_, xnat_ofX _⟩
  · rcases List.mem_cons.1 hb with rfl | hb
    · exact ⟨ls40, by kernel_rfl, loopV1⟩
    · rcases List.mem_cons.1 hb with rfl | hb
      · exact ⟨ms40, by kernel_rfl, loopV2⟩
      · rcases List.mem_cons.1 hb with rfl | hb
        · exact ⟨ns40, by kernel_rfl, loopV3⟩
        · cases hb
  change (FS40 avs rows).run _ = some r at h
  unfold FS40 at h
  split at h
  · rename_i p n' e es csp
    obtain ⟨hc, hk⟩ := gd_some h
    clear h
    simp only [Bool.and_eq_true] at hc
    obtain ⟨hp, hc, hok⟩ := hc
    obtain rfl := Nat.eq_of_beq_eq_true hp
    clear hp
    obtain ⟨rfl, c2⟩ := of_decide_eq_true hc
    refine ⟨by simp, fun rows' hsp => ?_⟩
    obtain ⟨sp, rfl⟩ : ∃ sp, rows' = [.arr false (.int .i64) e es (some sp)] := by
      match rows', hsp with
      | [r1], ⟨⟨sp, h1, _⟩, _⟩ => exact ⟨sp, by rw [h1]⟩
    refine Eq.trans (b := bif PID.beq PID && (decide ((20 : Int) = (20 : Int) ∧ (0 : Int) ≤ (0 : Int) ∧ (20 : Int) = (0 : Int) + (20 : Int) ∧ (↑es.length : Int) = (↑es.length : Int) ∧ (0 : Int) ≤ (↑es.length : Int) ∧ (↑es.length : Int) ≤ (1000 : Int)) && okL es) then bif ((fun x => PID + x) (0 : Nat)).beq PID && (decide ((0 : Int) ≤ (↑(st1 (↑es.length : Int).toNat (0 : Nat) es).fst : Int) ∧ (↑(st1 (↑es.length : Int).toNat (0 : Nat) es).fst : Int) ≤ (↑es.length : Int) ∧ (↑es.length : Int) ≤ (↑(st1 (↑es.length : Int).toNat (0 : Nat) es).snd.length : Int) ∧ (st1 (↑es.length : Int).toNat (0 : Nat) es).snd.length ≤ (1000 : Nat)) && okL (st1 (↑es.length : Int).toNat (0 : Nat) es).snd) then bif PID.beq PID && (decide ((0 : Int) < (20 : Int) ∧ (20 : Int) ≤ (2000 : Int) ∧ (↑es.length : Int) = (↑(sortAt (↑(st1 (↑es.length : Int).toNat (0 : Nat) es).fst : Int).toNat (↑es.length : Int).toNat (st1 (↑es.length : Int).toNat (0 : Nat) es).snd).length : Int) ∧ (↑es.length : Int) ≤ (1000 : Int)) && (okL (sortAt (↑(st1 (↑es.length : Int).toNat (0 : Nat) es).fst : Int).toNat (↑es.length : Int).toNat (st1 (↑es.length : Int).toNat (0 : Nat) es).snd) && blkB (Int.toNat (20 : Int)) (0 : Nat) (↑es.length : Int).toNat (sortAt (↑(st1 (↑es.length : Int).toNat (0 : Nat) es).fst : Int).toNat (↑es.length : Int).toNat (st1 (↑es.length : Int).toNat (0 : Nat) es).snd))) then k (AV.tup []) [some (Row.arr false (Sh.int IntKind.i64) e (sortS (sortAt (↑(st1 (↑es.length : Int).toNat (0 : Nat) es).fst : Int).toNat (↑es.length : Int).toNat (st1 (↑es.length : Int).toNat (0 : Nat) es).snd)) none)] [] else none else none else none) (by kernel_rfl) ?_
    have hb : ((fun x => PID + x) 0).beq PID = true := Nat.beq_refl PID
    have P := st1_pre _ es.length 0 es rfl (by omega) rfl
    have hl := P.len
    have hhi := P.hi
    have hok1 := okL_same P.same hok
    rw [← hk, Nat.beq_refl, Int.toNat_natCast, Int.toNat_natCast]
    generalize st1 es.length 0 es = R at P hl hhi hok1
    have hl2 := sortAt_len (a := R.1) (b := es.length) (es := R.2) (by omega)
    have hsm := sortAt_same (a := R.1) (b := es.length) (es := R.2) (by omega)
    have hok2 := okL_same hsm hok1
    have hB2 := blkB_of (blk_all (es' := sortAt R.1 es.length R.2) (by omega : 0 < 20) rfl P (take_sortAt (Nat.le_refl _) (by omega) (by omega)) (by rw [seg_sortAt (by omega) (by omega)]; exact sortS_dn _))
    refine Eq.trans (cond_t (and_t rfl (and_t (decide_eq_true ⟨rfl, by omega, by omega, rfl, by omega, by omega⟩) hok))) (Eq.trans (cond_t (and_t hb (and_t (decide_eq_true ⟨by omega, by omega, by omega, by omega⟩) hok1))) (Eq.trans (cond_t (and_t rfl (and_t (decide_eq_true ⟨by omega, by omega, by omega, by omega⟩) (and_t hok2 hB2)))) ?_))
    rw [← sortS_congr (P.same.trans hsm)]
    rfl
  · cases h
noncomputable def GW : Env := { pure := [], opens := [(40, ofX FS40)] }
theorem gW : GOK Try.prog GW := GOK.alsoX g0 okS40
def FS24 : List AV → List Row → Tr XOut
  | [.own p, .fn 25 []], [.arr false (.int .i64) e es _] => .gd (Nat.beq p PID && (decide (es.length ≤ 1000) && okL es)) (.leaf (.tup [], [some (.arr false (.int .i64) e (sortS es) none)], []))
  | _, _ => .no
theorem okS24 : XOK Try.prog 24 (ofX FS24) ∧ XNat (ofX FS24) := by
  refine ⟨xsum0 (H := []) gW Try.func24 (by kernel_rfl) fun ρ avs rows k r h => ?_, xnat_ofX _⟩
  change (FS24 avs rows).run _ = some r at h
  unfold FS24 at h
  split at h
  · rename_i p e es csp
    obtain ⟨hc, hk⟩ := gd_some h
    clear h
    simp only [Bool.and_eq_true] at hc
    obtain ⟨hp, hc, hok⟩ := hc
    obtain rfl := Nat.eq_of_beq_eq_true hp
    clear hp
    have c2 := of_decide_eq_true hc
    refine ⟨by simp, fun rows' hsp => ?_⟩
    obtain ⟨sp, rfl⟩ : ∃ sp, rows' = [.arr false (.int .i64) e es (some sp)] := by
      match rows', hsp with
      | [r1], ⟨⟨sp, h1, _⟩, _⟩ => exact ⟨sp, by rw [h1]⟩
    refine Eq.trans (b := bif ((fun x => PID + x) (0 : Nat)).beq PID && (decide ((↑es.length : Int) = (↑es.length : Int) ∧ (↑es.length : Int) ≤ (1000 : Int)) && okL es) then k (AV.tup []) [some (Row.arr false (Sh.int IntKind.i64) e (sortS es) none)] [] else none) (by kernel_rfl) ?_
    rw [← hk]
    have hb : ((fun x => PID + x) 0).beq PID = true := Nat.beq_refl PID
    exact Eq.trans (cond_t (and_t hb (and_t (decide_eq_true ⟨rfl, by omega⟩) hok))) rfl
  · cases h
end Go.Proofs.Ytpgaobdgohlegaa
