/-
  CustodyNeedsAllSeals, the tied card: for every input the call returns true, and the arguments read as before; the listed tables read as the program's text lays them.
-/
import Derived.Test.YthdhfmdhjanoaaaGreatDoorTtHa
import Derived.Test.YthdhfmdhjanoaaaGreatDoorCards
import Derived.Test.YthdhfmdhjanoaaaGreatDoorTie
import Derived.LaidMore
import Derived.Lay
import Derived.SevenTiedAt
import Derived.Stop.Joined
namespace Go.Proofs.YthdhfmdhjanoaaaGreatDoor
open Go.Ev

def c12 : List UInt8 := [109, 97, 105, 108, 45, 99, 117, 115, 116, 111, 100, 121]
/-- The fields without one of the seals. -/
def drF (i : Nat) : Nat → List AV → List AV
  | _, [] => []
  | k, e :: r => bif eqF (fN e) c12 then (bif Nat.beq k i then drF i (k + 1) r else .agg [.str (fN e), .str (fV e)] :: drF i (k + 1) r) else .agg [.str (fN e), .str (fV e)] :: drF i k r
theorem drF_sub (i : Nat) : ∀ (es : List AV) (k : Nat), ∃ c : List AV, c.Sublist es ∧ drF i k es = c.map cn
  | [], _ => ⟨[], List.Sublist.slnil, rfl⟩
  | e :: r, k => by
    obtain ⟨c1, s1, h1⟩ := drF_sub i r (k + 1)
    obtain ⟨c0, s0, h0⟩ := drF_sub i r k
    unfold drF
    rw [h1, h0]
    cases eqF (fN e) c12
    · exact ⟨e :: c0, s0.cons_cons e, rfl⟩
    · cases Nat.beq k i
      · exact ⟨e :: c1, s1.cons_cons e, rfl⟩
      · exact ⟨c1, s1.cons e, rfl⟩
theorem cn_pk (e : AV) (c : List AV) : pkF cuF (.agg [.str (fN e), .str (fV e)] :: c) = bif eqF (fN e) cuF then .str (fV e) :: pkF cuF c else pkF cuF c := by
  rw [pkF_cons]
  rfl
theorem drF_past (i : Nat) : ∀ (es : List AV) (k : Nat), i < k → pkF cuF (drF i k es) = pkF cuF es
  | [], _, _ => rfl
  | e :: r, k, h => by
    have h1 := drF_past i r (k + 1) (by omega)
    have h0 := drF_past i r k h
    have hb : Nat.beq k i = false := by
      cases hb : Nat.beq k i
      · rfl
      · have := Nat.eq_of_beq_eq_true hb; omega
    unfold drF
    rw [pkF_cons, show eqF (fN e) c12 = eqF (fN e) cuF from eqF_cu (fN e), hb]
    cases he : eqF (fN e) cuF
    · simp only [cond_false]
      rw [cn_pk, he, h0]
      rfl
    · simp only [cond_true, cond_false]
      rw [cn_pk, he, h1]
      rfl
theorem drF_pk (i : Nat) : ∀ (es : List AV) (k : Nat), k ≤ i → pkF cuF (drF i k es) = (pkF cuF es).eraseIdx (i - k)
  | [], _, _ => rfl
  | e :: r, k, h => by
    have h0 := drF_pk i r k h
    unfold drF
    rw [pkF_cons, show eqF (fN e) c12 = eqF (fN e) cuF from eqF_cu (fN e)]
    cases he : eqF (fN e) cuF
    · simp only [cond_false]
      rw [cn_pk, he, h0]
      rfl
    · simp only [cond_true]
      cases hb : Nat.beq k i
      · have hne : k ≠ i := fun hh => by rw [hh, Nat.beq_refl] at hb; cases hb
        have h1 := drF_pk i r (k + 1) (by omega)
        simp only [cond_false]
        rw [cn_pk, he, h1, show i - k = (i - (k + 1)) + 1 from by omega, List.eraseIdx_cons_succ]
        rfl
      · obtain rfl := Nat.eq_of_beq_eq_true hb
        simp only [cond_true]
        rw [drF_past k r (k + 1) (by omega), Nat.sub_self]
        rfl
theorem dig_inj {a b : Nat} (ha : a < 100) (hb : b < 100) (h : dig a = dig b) : a = b := by
  have key : ∀ a, a < 100 → ((dig a).foldl (fun s d => s * 10 + (d.toNat - 48)) 0) = a := by decide +kernel
  rw [← key a ha, ← key b hb, h]
/-- Fewer seals below the same head: not right. -/
theorem ck_less {v : List UInt8} {P Q kk : List AV} {s : List UInt8} (hP : P.length < 100) (hQ : Q.length + 1 = P.length) (h : ckB 0 v P kk s = true) : ckB 0 v Q kk s = false := by
  cases h2 : ckB 0 v Q kk s
  · rfl
  · unfold ckB at h h2
    simp only [Bool.and_eq_true] at h h2
    have e1 : q5 v 0 = dig ((P.length : Int) - 0).toNat := by simpa using h.2.1
    have e2 : q5 v 0 = dig ((Q.length : Int) - 0).toNat := by simpa using h2.2.1
    have := dig_inj (by omega) (by omega) (e1.symm.trans e2)
    omega
theorem ch_less {P kk : List AV} {s : List UInt8} {i : Nat} (hP : P.length < 100) (h0 : 0 < i) (hi : i < P.length) (h : (ckA P P kk s P.length 0 || (P.length : Int) == 0) = true) :
    (ckA (P.eraseIdx i) (P.eraseIdx i) kk s (P.eraseIdx i).length 0 || ((P.eraseIdx i).length : Int) == 0) = false := by
  have hl : (P.eraseIdx i).length + 1 = P.length := by rw [List.length_eraseIdx_of_lt hi]; omega
  cases P with
  | nil => simp at hi
  | cons v r =>
    obtain ⟨j, rfl⟩ : ∃ j, i = j + 1 := ⟨i - 1, by omega⟩
    rw [List.eraseIdx_cons_succ] at hl ⊢
    rw [List.length_cons] at hl hi hP
    have hr : (((r.length + 1 : Nat) : Int) == 0) = false := beq_eq_false_iff_ne.2 (by omega)
    rw [List.length_cons, ckA_succ, hr, Bool.or_false, Bool.and_eq_true] at h
    have hc : ckB 0 (sE v) (v :: r) kk s = true := h.1
    have hf := ck_less (Q := v :: r.eraseIdx j) (by rw [List.length_cons]; exact hP) hl hc
    have hz : ((((r.eraseIdx j).length + 1 : Nat) : Int) == 0) = false := beq_eq_false_iff_ne.2 (by omega)
    rw [List.length_cons, ckA_succ, hz, Bool.or_false]
    rw [show ckB ((0 : Nat) : Int) (sE ((v :: r.eraseIdx j).getD 0 .unk)) (v :: r.eraseIdx j) kk s = false from hf]
    rfl
theorem drF_cons (i k : Nat) (e : AV) (r : List AV) : drF i k (e :: r) = bif eqF (fN e) c12 then (bif Nat.beq k i then drF i (k + 1) r else .agg [.str (fN e), .str (fV e)] :: drF i (k + 1) r) else .agg [.str (fN e), .str (fV e)] :: drF i k r := rfl
theorem eqF_c12 (s : List UInt8) : eqF s cuF = eqF s c12 := (eqF_cu s).symm
theorem beq_up (m p : Nat) : (((m + 1 : Nat) : Int) == ((p + 1 : Nat) : Int)) = Nat.beq m p := by
  cases h : Nat.beq m p
  · have : m ≠ p := fun e => by rw [e, Nat.beq_refl] at h; cases h
    exact beq_eq_false_iff_ne.2 (by omega)
  · have := Nat.eq_of_beq_eq_true h
    subst this
    exact beq_self_eq_true _
noncomputable def G12 : Env := { pure := [(35, ofT F35), (33, ofT F16), (31, ofT F53), (39, ofT F39)] }
theorem g12 : GOK Tryz.prog G12 := GOK.also (GOK.also (GOK.also (GOK.also g0 ok39) ok31') ok33) ok35
noncomputable def b12 : Code := ((Tryz.f12.body.map loopsOf).getD []).headD .skip
def L12 : List AV → List (Option Row) → Tr LOut
  | [.slv (.agg [.str, .int .u64]) kk, .int .i64 i, .ptr 0 0, .int .i64 n, .bool is, .ptr 256 0, .int .i64 k, .int .i64 x], [some (.box false [.slv (.agg [.str, .str]) es, .slv (.int .u8) bs]), some (.box false [.own 900, .slv (.int .u8) b2]), some (.arr false (.agg [.str, .str]) e out none)] =>
    .gd (cnt es.length x es.length && (es.all okF && (decide (out.length + (es.length - x.toNat) ≤ 1000000 ∧ (0 ≤ k ∧ k ≤ x) ∧ (0 < i ∧ i ≤ 1000)) && Nat.beq e 45))) (.leaf (.exit 0, [.slv (.agg [.str, .int .u64]) kk, .int .i64 i, .ptr 0 0, .int .i64 n, .bool is, .ptr 256 0, .int .i64 (k + ((pkF cuF (es.drop x.toNat)).length : Nat)), .int .i64 es.length], [some (.box false [.slv (.agg [.str, .str]) es, .slv (.int .u8) bs]), some (.box false [.own 900, .slv (.int .u8) b2]), some (.arr false (.agg [.str, .str]) e (out ++ drF i.toNat k.toNat (es.drop x.toNat)) none)]))
  | _, _ => .no
def l12 : Ev.Loop := ⟨{ len := 94, slots := [1, 2, 3, 7, 8, 10, 11, 12], rows := [0, 256, 900], cells := [(256, 0, 900, 45)] }, ofL L12⟩
def μ12 (vs : List AV) (rs : List (Option Row)) : Nat := match vs, rs with
  | [_, _, _, _, _, _, _, .int _ i], some (.box _ [.slv _ es, _]) :: _ => ((es.length : Int) - i).toNat
  | _, _ => 0
theorem loop12 : LoopOK Tryz.prog G12 [(8, l12)] b12 l12 := by
  refine loopT g12.natOK rfl (KOK.nil (by kernel_rfl)) μ12 (fun ρ vs rs k r h => ?_)
  unfold L12 at h
  split at h
  · rename_i kk i n is k' x es bs b2 e out
    obtain ⟨hc, hk⟩ := gd_some h
    simp only [Bool.and_eq_true] at hc
    obtain ⟨hc, hall, hb, he⟩ := hc
    obtain rfl := Nat.eq_of_beq_eq_true he
    obtain ⟨hb, ⟨hb2, hb3⟩, hb4, hb5⟩ := of_decide_eq_true hb
    refine Eq.trans (b := bif decide (x < (↑es.length : Int)) then bif inb x es.length then bif small (fN (es.getD x.toNat AV.unk)).length && small ([(109 : UInt8), (97 : UInt8), (105 : UInt8), (108 : UInt8), (45 : UInt8), (99 : UInt8), (117 : UInt8), (115 : UInt8), (116 : UInt8), (111 : UInt8), (100 : UInt8), (121 : UInt8)] : List UInt8).length then bif eqF (fN (es.getD x.toNat AV.unk)) ([(109 : UInt8), (97 : UInt8), (105 : UInt8), (108 : UInt8), (45 : UInt8), (99 : UInt8), (117 : UInt8), (115 : UInt8), (116 : UInt8), (111 : UInt8), (100 : UInt8), (121 : UInt8)] : List UInt8) then bif IntKind.i64.wrap (k' + (1 : Int)) == IntKind.i64.wrap (i + (1 : Int)) then bif decide (((↑es.length : Int) - IntKind.i64.wrap (x + (1 : Int))).toNat < ((↑es.length : Int) - x).toNat) then bif cnt (↑es.length : Int) (IntKind.i64.wrap (x + (1 : Int))) es.length && (es.all okF && (decide (out.length + (es.length - (IntKind.i64.wrap (x + (1 : Int))).toNat) ≤ (1000000 : Nat) ∧ ((0 : Int) ≤ IntKind.i64.wrap (k' + (1 : Int)) ∧ IntKind.i64.wrap (k' + (1 : Int)) ≤ IntKind.i64.wrap (x + (1 : Int))) ∧ (0 : Int) < i ∧ i ≤ (1000 : Int)) && Nat.beq (45 : Nat) (45 : Nat))) then k (Ex.exit (0 : Nat)) [AV.slv (Sh.agg [Sh.str, Sh.int IntKind.u64]) kk, AV.int IntKind.i64 i, AV.ptr (0 : Nat) (0 : Nat), AV.int IntKind.i64 n, AV.bool is, AV.ptr (256 : Nat) (0 : Nat), AV.int IntKind.i64 (IntKind.i64.wrap (k' + (1 : Int)) + (↑(pkF cuF (List.drop (IntKind.i64.wrap (x + (1 : Int))).toNat es)).length : Int)), AV.int IntKind.i64 (↑es.length : Int)] [some (Row.box false [AV.slv (Sh.agg [Sh.str, Sh.str]) es, AV.slv (Sh.int IntKind.u8) bs]), some (Row.box false [AV.own (900 : Nat), AV.slv (Sh.int IntKind.u8) b2]), some (Row.arr false (Sh.agg [Sh.str, Sh.str]) (45 : Nat) (out ++ drF i.toNat (IntKind.i64.wrap (k' + (1 : Int))).toNat (List.drop (IntKind.i64.wrap (x + (1 : Int))).toNat es)) none)] else none else none else bif inb x es.length then bif roomB (out.length + [AV.agg [AV.str (fN (es.getD x.toNat AV.unk)), AV.str (fV (es.getD x.toNat AV.unk))]].length) (Tryz.prog.bytesOf (45 : Nat)) then bif decide (((↑es.length : Int) - IntKind.i64.wrap (x + (1 : Int))).toNat < ((↑es.length : Int) - x).toNat) then bif cnt (↑es.length : Int) (IntKind.i64.wrap (x + (1 : Int))) es.length && (es.all okF && (decide ((out ++ [AV.agg [AV.str (fN (es.getD x.toNat AV.unk)), AV.str (fV (es.getD x.toNat AV.unk))]]).length + (es.length - (IntKind.i64.wrap (x + (1 : Int))).toNat) ≤ (1000000 : Nat) ∧ ((0 : Int) ≤ IntKind.i64.wrap (k' + (1 : Int)) ∧ IntKind.i64.wrap (k' + (1 : Int)) ≤ IntKind.i64.wrap (x + (1 : Int))) ∧ (0 : Int) < i ∧ i ≤ (1000 : Int)) && Nat.beq (45 : Nat) (45 : Nat))) then k (Ex.exit (0 : Nat)) [AV.slv (Sh.agg [Sh.str, Sh.int IntKind.u64]) kk, AV.int IntKind.i64 i, AV.ptr (0 : Nat) (0 : Nat), AV.int IntKind.i64 n, AV.bool is, AV.ptr (256 : Nat) (0 : Nat), AV.int IntKind.i64 (IntKind.i64.wrap (k' + (1 : Int)) + (↑(pkF cuF (List.drop (IntKind.i64.wrap (x + (1 : Int))).toNat es)).length : Int)), AV.int IntKind.i64 (↑es.length : Int)] [some (Row.box false [AV.slv (Sh.agg [Sh.str, Sh.str]) es, AV.slv (Sh.int IntKind.u8) bs]), some (Row.box false [AV.own (900 : Nat), AV.slv (Sh.int IntKind.u8) b2]), some (Row.arr false (Sh.agg [Sh.str, Sh.str]) (45 : Nat) (out ++ [AV.agg [AV.str (fN (es.getD x.toNat AV.unk)), AV.str (fV (es.getD x.toNat AV.unk))]] ++ drF i.toNat (IntKind.i64.wrap (k' + (1 : Int))).toNat (List.drop (IntKind.i64.wrap (x + (1 : Int))).toNat es)) none)] else none else none else none else none else bif inb x es.length then bif roomB (out.length + [AV.agg [AV.str (fN (es.getD x.toNat AV.unk)), AV.str (fV (es.getD x.toNat AV.unk))]].length) (Tryz.prog.bytesOf (45 : Nat)) then bif decide (((↑es.length : Int) - IntKind.i64.wrap (x + (1 : Int))).toNat < ((↑es.length : Int) - x).toNat) then bif cnt (↑es.length : Int) (IntKind.i64.wrap (x + (1 : Int))) es.length && (es.all okF && (decide ((out ++ [AV.agg [AV.str (fN (es.getD x.toNat AV.unk)), AV.str (fV (es.getD x.toNat AV.unk))]]).length + (es.length - (IntKind.i64.wrap (x + (1 : Int))).toNat) ≤ (1000000 : Nat) ∧ ((0 : Int) ≤ k' ∧ k' ≤ IntKind.i64.wrap (x + (1 : Int))) ∧ (0 : Int) < i ∧ i ≤ (1000 : Int)) && Nat.beq (45 : Nat) (45 : Nat))) then k (Ex.exit (0 : Nat)) [AV.slv (Sh.agg [Sh.str, Sh.int IntKind.u64]) kk, AV.int IntKind.i64 i, AV.ptr (0 : Nat) (0 : Nat), AV.int IntKind.i64 n, AV.bool is, AV.ptr (256 : Nat) (0 : Nat), AV.int IntKind.i64 (k' + (↑(pkF cuF (List.drop (IntKind.i64.wrap (x + (1 : Int))).toNat es)).length : Int)), AV.int IntKind.i64 (↑es.length : Int)] [some (Row.box false [AV.slv (Sh.agg [Sh.str, Sh.str]) es, AV.slv (Sh.int IntKind.u8) bs]), some (Row.box false [AV.own (900 : Nat), AV.slv (Sh.int IntKind.u8) b2]), some (Row.arr false (Sh.agg [Sh.str, Sh.str]) (45 : Nat) (out ++ [AV.agg [AV.str (fN (es.getD x.toNat AV.unk)), AV.str (fV (es.getD x.toNat AV.unk))]] ++ drF i.toNat k'.toNat (List.drop (IntKind.i64.wrap (x + (1 : Int))).toNat es)) none)] else none else none else none else none else none else none else k (Ex.exit (0 : Nat)) [AV.slv (Sh.agg [Sh.str, Sh.int IntKind.u64]) kk, AV.int IntKind.i64 i, AV.ptr (0 : Nat) (0 : Nat), AV.int IntKind.i64 n, AV.bool is, AV.ptr (256 : Nat) (0 : Nat), AV.int IntKind.i64 k', AV.int IntKind.i64 x] [some (Row.box false [AV.slv (Sh.agg [Sh.str, Sh.str]) es, AV.slv (Sh.int IntKind.u8) bs]), some (Row.box false [AV.own (900 : Nat), AV.slv (Sh.int IntKind.u8) b2]), some (Row.arr false (Sh.agg [Sh.str, Sh.str]) (45 : Nat) out none)]) (by kernel_rfl) ?_
    rw [← hk]
    obtain ⟨_, hs, j, rfl, hj⟩ := cnt_spec hc
    obtain ⟨m, rfl⟩ : ∃ m : Nat, k' = m := ⟨k'.toNat, by omega⟩
    obtain ⟨p, rfl⟩ : ∃ p : Nat, i = p := ⟨i.toNat, by omega⟩
    rw [Int.toNat_natCast] at hb
    simp only [Int.toNat_natCast]
    by_cases hlt : j < es.length
    · obtain ⟨e1, e2, e3, e4, e5⟩ := cnt_facts hlt hs
      have hok : (small (fN (es.getD j .unk)).length && small (fV (es.getD j .unk)).length) = true := List.all_eq_true.1 hall (es.getD j .unk) (by rw [getD_eq hlt]; exact List.getElem_mem hlt)
      simp only [Bool.and_eq_true] at hok
      have wk : IntKind.i64.wrap ((m : Int) + 1) = ((m + 1 : Nat) : Int) := by rw [wrap_small _ (by omega) (by omega)]; omega
      have wi : IntKind.i64.wrap ((p : Int) + 1) = ((p + 1 : Nat) : Int) := by rw [wrap_small _ (by omega) (by omega)]; omega
      have r45 : ∀ x : AV, roomB (out.length + [x].length) (Tryz.prog.bytesOf 45) = true := fun x => roomB_small (by show _ + 1 ≤ _; omega) by45
      have hsn : small ([109, 97, 105, 108, 45, 99, 117, 115, 116, 111, 100, 121] : List UInt8).length = true := rfl
      have h45 : Nat.beq 45 45 = true := rfl
      have hc12 : ([109, 97, 105, 108, 45, 99, 117, 115, 116, 111, 100, 121] : List UInt8) = c12 := rfl
      rw [drop_getD hlt, drF_cons, pkF_cons, eqF_c12]
      rw [e3, wk, wi, beq_up, e4, hc12]
      refine Eq.trans (cond_t e1) (Eq.trans (cond_t e2) (Eq.trans (cond_t (and_t hok.1 rfl)) ?_))
      cases eqF (fN (es.getD j .unk)) c12
      · simp only [cond_false]
        refine Eq.trans (cond_t e2) (Eq.trans (cond_t (r45 _)) (Eq.trans (cond_t e5) (Eq.trans (cond_t (and_t rfl (and_t hall (and_t (decide_eq_true ⟨by rw [List.length_append, List.length_singleton]; omega, by omega, by omega⟩) rfl)))) ?_)))
        simp only [List.append_assoc]
        rfl
      · simp only [cond_true]
        have hK : ((m + 1 : Nat) : Int) + ((pkF cuF (es.drop (j + 1))).length : Nat) = (m : Int) + ((AV.str (fV (es.getD j .unk)) :: pkF cuF (es.drop (j + 1))).length : Nat) := by rw [List.length_cons]; omega
        cases Nat.beq m p
        · simp only [cond_false]
          refine Eq.trans (cond_t e2) (Eq.trans (cond_t (r45 _)) (Eq.trans (cond_t e5) (Eq.trans (cond_t (and_t rfl (and_t hall (and_t (decide_eq_true ⟨by rw [List.length_append, List.length_singleton]; omega, by omega, by omega⟩) rfl)))) ?_)))
          simp only [Int.toNat_natCast]
          rw [hK]
          simp only [List.append_assoc]
          rfl
        · simp only [cond_true]
          refine Eq.trans (cond_t e5) (Eq.trans (cond_t (and_t rfl (and_t hall (and_t (decide_eq_true ⟨by omega, by omega, by omega⟩) rfl)))) ?_)
          simp only [Int.toNat_natCast]
          rw [hK]
          rfl
    · obtain rfl : j = es.length := by omega
      rw [decide_eq_false (by omega), List.drop_length]
      show k _ [_, _, _, _, _, _, .int .i64 (m : Int), _] [_, _, some (.arr false _ 45 out none)] = k _ [_, _, _, _, _, _, .int .i64 ((m : Int) + ((0 : Nat) : Int)), _] [_, _, some (.arr false _ 45 (out ++ []) none)]
      rw [List.append_nil, show (m : Int) + ((0 : Nat) : Int) = (m : Int) from by omega]
  · cases h
theorem law12 (es bs kk : List AV) (i : Int) (hm : Msg es bs) (hk : Kys kk) : evF Tryz.prog G12 [(8, l12)] Tryz.f12 AV [.agg [.slv (.agg [.str, .str]) es, .slv (.int .u8) bs], .slv (.agg [.str, .int .u64]) kk, .int .i64 i] some = some (.bool true) := by
  refine Eq.trans (b := bif small es.length && es.all okF && (bs.all bE && decide (bs.length ≤ (141000000000000 : Nat)) && (small kk.length && kk.all okK)) then bif chC es bs kk != (0 : Int) then some (AV.bool true) else bif !chB es bs kk then some (AV.bool true) else bif !inR i (1 : Int) (IntKind.i64.wrap (chN es bs kk - (1 : Int))) then some (AV.bool true) else bif cnt (↑es.length : Int) (0 : Int) es.length && (es.all okF && (decide (([] : List AV).length + (es.length - Int.toNat (0 : Int)) ≤ (1000000 : Nat) ∧ ((0 : Int) ≤ (0 : Int) ∧ (0 : Int) ≤ (0 : Int)) ∧ (0 : Int) < i ∧ i ≤ (1000 : Int)) && Nat.beq ((256 : Nat), (0 : Nat), (900 : Nat), (45 : TypeId)).snd.snd.snd (45 : Nat))) then bif small ([] ++ drF i.toNat (0 : Nat) (List.drop (0 : Nat) es)).length && ([] ++ drF i.toNat (0 : Nat) (List.drop (0 : Nat) es)).all okF && (bs.all bE && decide (bs.length ≤ (141000000000000 : Nat)) && (small kk.length && kk.all okK)) then bif chC ([] ++ drF i.toNat (0 : Nat) (List.drop (0 : Nat) es)) bs kk == (0 : Int) then bif chN ([] ++ drF i.toNat (0 : Nat) (List.drop (0 : Nat) es)) bs kk == IntKind.i64.wrap (chN es bs kk - (1 : Int)) then bif !chB ([] ++ drF i.toNat (0 : Nat) (List.drop (0 : Nat) es)) bs kk then some (AV.bool true) else some (AV.bool false) else some (AV.bool false) else some (AV.bool false) else none else none else none) (by kernel_rfl) ?_
  refine Eq.trans (cond_t (and_t (and_t hm.es hm.ok) (and_t (and_t hm.by_ hm.bs) (and_t hk.ks hk.ok)))) ?_
  cases h1 : chC es bs kk == 0
  · exact cond_t (by simp only [bne, h1, Bool.not_false])
  have hc0 : chC es bs kk = 0 := by simpa using h1
  obtain ⟨hv, hky⟩ := ch_zero h1
  have h60 := hv_len (vd_hv hv)
  have hpl := pkF_len cuF es
  have hn : chN es bs kk = ((pkF cuF es).length : Nat) := by unfold chN; rw [hc0]; rfl
  have hb : chB es bs kk = chR es bs kk := by unfold chB; rw [hc0]; rfl
  have hw : IntKind.i64.wrap (((pkF cuF es).length : Int) - 1) = ((pkF cuF es).length : Int) - 1 := wrap_mid _ (by omega) (by omega)
  rw [hn, hb, hw]
  refine Eq.trans (cond_f (by simp only [bne, h1, Bool.not_true])) ?_
  cases h2 : chR es bs kk
  · rfl
  refine Eq.trans (cond_f rfl) ?_
  cases h3 : inR i 1 (((pkF cuF es).length : Int) - 1)
  · rfl
  obtain ⟨i1, i2⟩ := inR_spec h3
  obtain ⟨p, rfl⟩ : ∃ p : Nat, i = p := ⟨i.toNat, by omega⟩
  obtain ⟨c, hsb, hd⟩ := drF_sub p es 0
  have hlk := hsb.length_le
  have hX : ([] : List AV) ++ drF (p : Int).toNat 0 (List.drop 0 es) = c.map cn := by rw [← hd]; rfl
  have hp : pkF cuF (c.map cn) = (pkF cuF es).eraseIdx p := by rw [← hd, drF_pk p es 0 (Nat.zero_le p)]; rfl
  have hpe : ((pkF cuF es).eraseIdx p).length + 1 = (pkF cuF es).length := by rw [List.length_eraseIdx_of_lt (by omega)]; omega
  have hc1 : chC (c.map cn) bs kk = 0 := by unfold chC; rw [show (vdC (c.map cn) bs == 0) = true from vd_cn hv hsb]; exact hky
  have hn1 : chN (c.map cn) bs kk = ((pkF cuF es).length : Int) - 1 := by unfold chN; rw [hc1, hp]; show (((pkF cuF es).eraseIdx p).length : Int) = _; omega
  have hb1 : chB (c.map cn) bs kk = false := by
    unfold chB chR
    rw [hc1, hp]
    exact ch_less (by omega) (by omega) (by omega) h2
  rw [hX, hc1, hn1, hb1]
  refine Eq.trans (cond_f rfl) (Eq.trans (cond_t (and_t (cnt_zero hm.es) (and_t hm.ok (and_t (decide_eq_true ⟨by show 0 + (es.length - 0) ≤ _; omega, by omega, by omega⟩) rfl)))) (Eq.trans (cond_t (and_t (and_t (small_t (by rw [List.length_map]; omega)) (okF_cn hm.ok hsb)) (and_t (and_t hm.by_ hm.bs) (and_t hk.ks hk.ok)))) ?_))
  simp only [beq_self_eq_true, Bool.not_false, cond_true]
theorem okL12 : SumOK Tryz.prog 12 (evF Tryz.prog G12 [(8, l12)] Tryz.f12) := sum1 g12 Tryz.func12 (by kernel_rfl) (by kernel_rfl) loop12 fun _ _ _ _ h => h

theorem spec12 (H : Type) : ∀ ds : List (DataW H), ds.length = Tryz.f12.params.size → Rows.custodyNeedsAllSealsSpec.fn H ds = { results := [.lit (.bool true)], args := ds }
  | [_, _, _], _ => rfl

set_option maxRecDepth 100000 in
theorem lifted12 (os : Os) (started : os.Started) (H : Type) (enc : TypeId × Value → H) :
    ReturnsInHanded {} Tryz.checked os 12 .any (fun w args => (Rows.custodyNeedsAllSealsSpec.pre enc Tryz.prog Tryz.f12 Rows.custodyNeedsAllSealsRow.domain false w args ∧ laidMetH Tryz.prog Rows.custodyNeedsAllSealsRow.laid w) ∧ sizedMet enc Tryz.prog Tryz.f12 (OpenSpec.ofChange Rows.custodyNeedsAllSealsSpec) false w args)
      (Rows.custodyNeedsAllSealsSpec.post enc Tryz.prog Tryz.f12 false true false false) := by
  refine hand_shaped (C := Tryz.checked) (X := fun w _ => laidMetH Tryz.prog Rows.custodyNeedsAllSealsRow.laid w) (fun _ _ _ hh h => h.of_heap hh) own started (by kernel_rfl) Tryz.func12
    (ChangeSpec.witness_shaped (enc := enc) (C := Tryz.checked) (os := os) (X := fun w _ => laidMetH Tryz.prog Rows.custodyNeedsAllSealsRow.laid w) false (World.laidAll Tryz.prog os Rows.custodyNeedsAllSealsRow.laid) #[.agg #[.slice none 0 0, .slice none 0 0], .slice none 0 0, .int .i64 0] 8 (World.laidAll_os _ _ _)
      (World.shaped_of_ZipB (by kernel_rfl) (by kernel_rfl)) (by kernel_rfl) (by kernel_rfl) (by kernel_rfl)
      (by rw [MakeChecks.laidMetH_plain _ _ _ (by kernel_rfl)]; exact laidMet_laidAll _ (by kernel_rfl) (by kernel_rfl))) ?_
  intro W base args ds gs before hval hW hz hsh
  refine contract_of (bk H) (n := 12) (tb := 4) (F := evF Tryz.prog G12 [(8, l12)] Tryz.f12) (by kernel_rfl) (by kernel_rfl) (by kernel_rfl) rfl (by kernel_rfl) (by kernel_rfl) (spec12 H) (okL12) (fun avs hg => ?_) hval hz hW (glb_of hsh)
  have hh : hasAll [.agg [.slice (.agg [.str, .str]), .slice (.int .u8)], .slice (.agg [.str, .int .u64]), .int .i64] avs = true := hg.has
  obtain ⟨v0, cs, rfl, h0, hh⟩ := hasAll_cons hh
  obtain ⟨v1, cs, rfl, h1, hh⟩ := hasAll_cons hh
  obtain ⟨v2, cs, rfl, h2, hh⟩ := hasAll_cons hh
  obtain rfl := hasAll_nil hh
  obtain ⟨es, bs, rfl, hm⟩ := open_msg h0 (hg.fit _ (by simp))
  obtain ⟨kk, rfl, hk⟩ := open_keys h1 (hg.fit _ (by simp))
  obtain ⟨i, rfl⟩ := has_int (k := .i64) h2
  exact law12 es bs kk i hm hk

theorem row_holds12 : Rows.CustodyNeedsAllSealsSaid :=
  OpenClaim.holds_of_wide 12 Tryz.f12 rfl rfl rfl rfl rfl rfl rfl ⟨rfl, rfl, rfl, rfl, rfl⟩ rfl rfl rfl rfl rfl (by kernel_rfl) Tryz.func12 (by kernel_rfl)
    (of_decide_eq_true (by kernel_rfl)) (by unfold Func.isWrapper; first | (rw [if_pos (by decide +kernel)]; kernel_rfl) | (rw [if_neg (by decide +kernel)]; exact ⟨rfl, rfl⟩))
    (fun os started H enc _ => lifted12 os started H enc)

theorem custody_needs_all_seals : Rows.CustodyNeedsAllSealsCardSaid :=
  Claim7.holds_tied_plain_at .later [] [.data, .data, .data, .data, .pinned] true (true, "c42626e2726d00c1893b9eec8006167c47ada7340b544c8011cb9df5be4c1095") false row_holds12 (fun _ h => by cases h) (by kernel_rfl) (fun _ h => by cases h) custodyNeedsAllSeals_row_tie rfl ⟨rfl, rfl⟩ (by kernel_rfl) rfl
    (fun f fn hf hfn => by
      obtain rfl : f = 12 := Option.some.inj ((show Tryz.prog.funcNamed "posthouse/posthouselaw5.CustodyNeedsAllSeals" = some 12 by kernel_rfl).symm.trans hf) |>.symm
      obtain rfl : fn = Tryz.f12 := (Option.some.inj (Tryz.func12.symm.trans hfn)).symm
      exact ⟨by kernel_rfl, fun j t ht => by
        have hm : t ∈ Tryz.f12.params.toList := Array.mem_def.1 (Array.mem_of_getElem? ht)
        have hall : (Tryz.f12.params.toList.all fun u => !Tryz.prog.wantsStandIn u) = true := by kernel_rfl
        exact (show Tryz.prog.wantsStandIn t = false by simpa using List.all_eq_true.1 hall t hm)⟩)
    (by kernel_rfl)

end Go.Proofs.YthdhfmdhjanoaaaGreatDoor
