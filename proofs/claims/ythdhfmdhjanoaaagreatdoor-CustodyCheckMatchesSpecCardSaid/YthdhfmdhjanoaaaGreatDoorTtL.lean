/-
  CustodyCheckMatchesSpec, the tied card: for every input the call returns true, and the arguments read as before; the listed tables read as the program's text lays them.
-/
import Derived.Test.YthdhfmdhjanoaaaGreatDoorTtK
import Derived.Test.YthdhfmdhjanoaaaGreatDoorCards
import Derived.Test.YthdhfmdhjanoaaaGreatDoorTie
import Derived.LaidMore
import Derived.Lay
import Derived.SevenTiedAt
import Derived.Stop.Joined
namespace Go.Proofs.YthdhfmdhjanoaaaGreatDoor
open Go.Ev
def srA (P kk : List AV) : Nat → Nat → Bool
  | 0, _ => true
  | n + 1, i => srL (P.drop i) kk && srA P kk n (i + 1)
theorem srA_succ (P kk : List AV) (n i : Nat) : srA P kk (n + 1) i = (srL (P.drop i) kk && srA P kk n (i + 1)) := rfl
theorem ck_srL {P kk : List AV} {s : List UInt8} {i : Nat} (hi : i < P.length) (h : P.length ≤ 99) : ckB (i : Int) (sE (P.getD i .unk)) P kk s = (srL (P.drop i) kk && (decide ((i : Int) > 0) || q5 (sE (P.getD i .unk)) 3 == s)) := by
  have e1 : (P.drop i).getD 0 .unk = P.getD i .unk := by rw [drop_getD hi]; rfl
  have e2 : (P.drop i).drop 1 = P.drop (i + 1) := by rw [List.drop_drop]
  have e3 : (P.drop i).length = P.length - i := List.length_drop
  have e4 : ((P.length : Int) - (i : Int)).toNat = P.length - i := by omega
  have e5 : ((i : Int) + 1).toNat = i + 1 := by omega
  unfold srL ckB
  rw [e1, e2, e3, sr_ck (by omega) (by omega), e4, e5]
  simp only [Bool.and_assoc]
theorem ck_srA {P kk : List AV} {s : List UInt8} (h : P.length ≤ 99) : ∀ n i, 0 < i → i + n = P.length → ckA P P kk s n i = srA P kk n i
  | 0, _, _, _ => rfl
  | n + 1, i, h0, hi => by
    rw [ckA_succ, srA_succ, ck_srL (by omega) h, ck_srA h n (i + 1) (by omega) (by omega), decide_eq_true (by omega), Bool.true_or, Bool.and_true]
theorem ck_all {P kk : List AV} {s : List UInt8} (h : P.length ≤ 99) (h0 : 0 < P.length) : ckA P P kk s P.length 0 = (srA P kk P.length 0 && q5 (sE (P.getD 0 .unk)) 3 == s) := by
  obtain ⟨n, hn⟩ : ∃ n, P.length = n + 1 := ⟨P.length - 1, by omega⟩
  rw [hn, ckA_succ, srA_succ, ck_srA h n 1 (by omega) (by omega)]
  have hb : ckB ((0 : Nat) : Int) (sE (P.getD 0 .unk)) P kk s = (srL (P.drop 0) kk && (decide (((0 : Nat) : Int) > 0) || q5 (sE (P.getD 0 .unk)) 3 == s)) := ck_srL h0 h
  rw [hb, decide_eq_false (by omega), Bool.false_or]
  cases srL (P.drop 0) kk <;> cases srA P kk n 1 <;> simp
theorem pkF_cu (es : List AV) : pkF cuL es = pkF cuF es := by
  unfold pkF
  simp only [eqF_cu]
noncomputable def G10 : Env := { pure := [(35, ofT F35), (18, ofT F18), (27, ofT F56), (28, ofT F28), (36, ofT F36), (37, ofT F37), (23, ofT F23), (15, ofT F14), (38, ofT F38), (33, ofT F16)] }
theorem g10 : GOK Tryz.prog G10 := GOK.also (GOK.also (GOK.also (GOK.also (GOK.also (GOK.also (GOK.also (GOK.also (GOK.also (GOK.also g0 ok33) ok38) ok15) ok23) ok37) ok36) ok28) ok27) ok18) ok35
noncomputable def b10 : Code := ((Tryz.f10.body.map loopsOf).getD []).headD .skip
def L10 : List AV → List (Option Row) → Tr LOut
  | [.slv (.agg [.str, .int .u64]) kk, .ptr 0 0, .int .i64 n, .bool is, .ptr 71 0, .slv .str all, .bool w, .int .i64 i], [some (.box false [.slv (.agg [.str, .str]) es, .slv (.int .u8) bs]), some (.box false [.int .i64 c1, .int .i64 c2])] =>
    .gd ((cnt all.length i all.length && all.all shW) && (small kk.length && decide (all.length ≤ 99))) (.leaf (.exit 0, [.slv (.agg [.str, .int .u64]) kk, .ptr 0 0, .int .i64 n, .bool is, .ptr 71 0, .slv .str all, .bool (w && srA all kk (all.length - i.toNat) i.toNat), .int .i64 all.length], [some (.box false [.slv (.agg [.str, .str]) es, .slv (.int .u8) bs]), some (.box false [.int .i64 c1, .int .i64 c2])]))
  | _, _ => .no
def l10 : Ev.Loop := ⟨{ len := 111, slots := [1, 2, 5, 6, 7, 9, 10, 11], rows := [0, 71] }, ofL L10⟩
def μ10 (vs : List AV) (_ : List (Option Row)) : Nat := match vs with
  | [_, _, _, _, _, .slv _ all, _, .int _ i] => ((all.length : Int) - i).toNat
  | _ => 0
theorem loop10 : LoopOK Tryz.prog G10 [(10, l10)] b10 l10 := by
  refine loopT g10.natOK rfl (KOK.nil (by kernel_rfl)) μ10 (fun ρ vs rs k r h => ?_)
  unfold L10 at h
  split at h
  · rename_i kk n is all w i es bs c1 c2
    obtain ⟨hc, hk⟩ := gd_some h
    simp only [Bool.and_eq_true] at hc
    obtain ⟨⟨hc, hall⟩, hkk, h99⟩ := hc
    have h99 := of_decide_eq_true h99
    refine Eq.trans (b := bif decide (i < (↑all.length : Int)) then bif w then bif slb i (↑all.length : Int) all.length then bif decide ((0 : Nat) < (List.take ((↑all.length : Int).toNat - i.toNat) (List.drop i.toNat all)).length ∧ (List.take ((↑all.length : Int).toNat - i.toNat) (List.drop i.toNat all)).length ≤ (99 : Nat)) && ((List.take ((↑all.length : Int).toNat - i.toNat) (List.drop i.toNat all)).all shW && small kk.length) then bif decide (((↑all.length : Int) - IntKind.i64.wrap (i + (1 : Int))).toNat < ((↑all.length : Int) - i).toNat) then bif cnt (↑all.length : Int) (IntKind.i64.wrap (i + (1 : Int))) all.length && all.all shW && (small kk.length && decide (all.length ≤ (99 : Nat))) then k (Ex.exit (0 : Nat)) [AV.slv (Sh.agg [Sh.str, Sh.int IntKind.u64]) kk, AV.ptr (0 : Nat) (0 : Nat), AV.int IntKind.i64 n, AV.bool is, AV.ptr (71 : Nat) (0 : Nat), AV.slv Sh.str all, AV.bool (srL (List.take ((↑all.length : Int).toNat - i.toNat) (List.drop i.toNat all)) kk && srA all kk (all.length - (IntKind.i64.wrap (i + (1 : Int))).toNat) (IntKind.i64.wrap (i + (1 : Int))).toNat), AV.int IntKind.i64 (↑all.length : Int)] [some (Row.box false [AV.slv (Sh.agg [Sh.str, Sh.str]) es, AV.slv (Sh.int IntKind.u8) bs]), some (Row.box false [AV.int IntKind.i64 c1, AV.int IntKind.i64 c2])] else none else none else none else none else bif decide (((↑all.length : Int) - IntKind.i64.wrap (i + (1 : Int))).toNat < ((↑all.length : Int) - i).toNat) then bif cnt (↑all.length : Int) (IntKind.i64.wrap (i + (1 : Int))) all.length && all.all shW && (small kk.length && decide (all.length ≤ (99 : Nat))) then k (Ex.exit (0 : Nat)) [AV.slv (Sh.agg [Sh.str, Sh.int IntKind.u64]) kk, AV.ptr (0 : Nat) (0 : Nat), AV.int IntKind.i64 n, AV.bool is, AV.ptr (71 : Nat) (0 : Nat), AV.slv Sh.str all, AV.bool (false && srA all kk (all.length - (IntKind.i64.wrap (i + (1 : Int))).toNat) (IntKind.i64.wrap (i + (1 : Int))).toNat), AV.int IntKind.i64 (↑all.length : Int)] [some (Row.box false [AV.slv (Sh.agg [Sh.str, Sh.str]) es, AV.slv (Sh.int IntKind.u8) bs]), some (Row.box false [AV.int IntKind.i64 c1, AV.int IntKind.i64 c2])] else none else none else k (Ex.exit (0 : Nat)) [AV.slv (Sh.agg [Sh.str, Sh.int IntKind.u64]) kk, AV.ptr (0 : Nat) (0 : Nat), AV.int IntKind.i64 n, AV.bool is, AV.ptr (71 : Nat) (0 : Nat), AV.slv Sh.str all, AV.bool w, AV.int IntKind.i64 i] [some (Row.box false [AV.slv (Sh.agg [Sh.str, Sh.str]) es, AV.slv (Sh.int IntKind.u8) bs]), some (Row.box false [AV.int IntKind.i64 c1, AV.int IntKind.i64 c2])]) (by kernel_rfl) ?_
    rw [← hk]
    obtain ⟨_, hs, j, rfl, hj⟩ := cnt_spec hc
    by_cases hlt : j < all.length
    · obtain ⟨e1, e2, e3, e4, e5⟩ := cnt_facts hlt hs
      have hX : List.take ((all.length : Int).toNat - (j : Int).toNat) (List.drop (j : Int).toNat all) = all.drop j := by
        rw [Int.toNat_natCast, Int.toNat_natCast]
        exact List.take_of_length_le (by rw [List.length_drop]; exact Nat.le_refl _)
      have hdl : (all.drop j).length = all.length - j := List.length_drop
      have hR : (w && srA all kk (all.length - j) j) = ((w && srL (all.drop j) kk) && srA all kk (all.length - (j + 1)) (j + 1)) := by
        rw [show all.length - j = (all.length - (j + 1)) + 1 from by omega, srA_succ, Bool.and_assoc]
      rw [hX, e3]
      simp only [Int.toNat_natCast]
      rw [hR]
      refine Eq.trans (cond_t e1) ?_
      cases w
      · exact Eq.trans (cond_f rfl) (Eq.trans (cond_t e5) (Eq.trans (cond_t (and_t (and_t e4 hall) (and_t hkk (decide_eq_true h99)))) rfl))
      · exact Eq.trans (cond_t rfl) (Eq.trans (cond_t (slb_true (by omega) (by omega) (Int.le_refl _))) (Eq.trans (cond_t (and_t (decide_eq_true ⟨by omega, by omega⟩) (and_t (all_drop j hall) hkk))) (Eq.trans (cond_t e5) (Eq.trans (cond_t (and_t (and_t e4 hall) (and_t hkk (decide_eq_true h99)))) rfl))))
    · obtain rfl : j = all.length := by omega
      rw [decide_eq_false (by omega), Int.toNat_natCast, Nat.sub_self]
      show k _ [_, _, _, _, _, _, .bool w, _] _ = k _ [_, _, _, _, _, _, .bool (w && true), _] _
      rw [Bool.and_true]
  · cases h
theorem law10 (es bs kk : List AV) (hm : Msg es bs) (hk : Kys kk) : evF Tryz.prog G10 [(10, l10)] Tryz.f10 AV [.agg [.slv (.agg [.str, .str]) es, .slv (.int .u8) bs], .slv (.agg [.str, .int .u64]) kk] some = some (.bool true) := by
  refine Eq.trans (b := bif small es.length && es.all okF && (bs.all bE && decide (bs.length ≤ (141000000000000 : Nat)) && (small kk.length && kk.all okK)) then bif small es.length && (es.all okF && decide (bs.length ≤ (141000000000000 : Nat))) then bif vdC es bs == (0 : Int) then bif small kk.length && kk.all okK then bif kyC kk != (0 : Int) then bif chC es bs kk == kyC kk && (chI es bs kk == kyI kk && true) then bif chN es bs kk == (0 : Int) then bif !chB es bs kk then some (AV.bool true) else some (AV.bool false) else some (AV.bool false) else some (AV.bool false) else bif es.all okF && (small ([109, 97, 105, 108, 45, 99, 117, 115, 116, 111, 100, 121] : List UInt8).length && decide (es.length ≤ (1000000 : Nat))) then bif cnt (↑(pkF ([109, 97, 105, 108, 45, 99, 117, 115, 116, 111, 100, 121] : List UInt8) es).length : Int) (0 : Int) (pkF ([109, 97, 105, 108, 45, 99, 117, 115, 116, 111, 100, 121] : List UInt8) es).length && (pkF ([109, 97, 105, 108, 45, 99, 117, 115, 116, 111, 100, 121] : List UInt8) es).all shW && (small kk.length && decide ((pkF ([109, 97, 105, 108, 45, 99, 117, 115, 116, 111, 100, 121] : List UInt8) es).length ≤ (99 : Nat))) then bif decide ((↑(pkF ([109, 97, 105, 108, 45, 99, 117, 115, 116, 111, 100, 121] : List UInt8) es).length : Int) > (0 : Int)) then bif true && srA (pkF ([109, 97, 105, 108, 45, 99, 117, 115, 116, 111, 100, 121] : List UInt8) es) kk ((pkF ([109, 97, 105, 108, 45, 99, 117, 115, 116, 111, 100, 121] : List UInt8) es).length - Int.toNat (0 : Int)) (0 : Nat) then bif bs.all bE then bif inb (0 : Int) (pkF ([109, 97, 105, 108, 45, 99, 117, 115, 116, 111, 100, 121] : List UInt8) es).length then bif decide ((((pkF ([109, 97, 105, 108, 45, 99, 117, 115, 116, 111, 100, 121] : List UInt8) es).getD (0 : Nat) AV.unk).cells.headD AV.unk).toStr.length ≤ (100000 : Nat)) then bif cbC bs == (0 : Int) then bif inb (3 : Int) (soL (((pkF ([109, 97, 105, 108, 45, 99, 117, 115, 116, 111, 100, 121] : List UInt8) es).getD (0 : Nat) AV.unk).cells.headD AV.unk).toStr).length then bif small (cbB bs).length then bif uN (sumF (0 : Int) (cbB bs)) then bif chC es bs kk == (0 : Int) then bif chN es bs kk == (↑(pkF ([109, 97, 105, 108, 45, 99, 117, 115, 116, 111, 100, 121] : List UInt8) es).length : Int) then bif chB es bs kk == ((sE ((soL (((pkF ([109, 97, 105, 108, 45, 99, 117, 115, 116, 111, 100, 121] : List UInt8) es).getD (0 : Nat) AV.unk).cells.headD AV.unk).toStr).getD (Int.toNat (3 : Int)) AV.unk)) == hexS (sumF (0 : Int) (cbB bs))) then some (AV.bool true) else some (AV.bool false) else some (AV.bool false) else some (AV.bool false) else none else none else none else bif chC es bs kk == (0 : Int) then bif chN es bs kk == (↑(pkF ([109, 97, 105, 108, 45, 99, 117, 115, 116, 111, 100, 121] : List UInt8) es).length : Int) then bif chB es bs kk == false then some (AV.bool true) else some (AV.bool false) else some (AV.bool false) else some (AV.bool false) else none else none else none else bif chC es bs kk == (0 : Int) then bif chN es bs kk == (↑(pkF ([109, 97, 105, 108, 45, 99, 117, 115, 116, 111, 100, 121] : List UInt8) es).length : Int) then bif chB es bs kk == (true && srA (pkF ([109, 97, 105, 108, 45, 99, 117, 115, 116, 111, 100, 121] : List UInt8) es) kk ((pkF ([109, 97, 105, 108, 45, 99, 117, 115, 116, 111, 100, 121] : List UInt8) es).length - Int.toNat (0 : Int)) (0 : Nat)) then some (AV.bool true) else some (AV.bool false) else some (AV.bool false) else some (AV.bool false) else bif chC es bs kk == (0 : Int) then bif chN es bs kk == (↑(pkF ([109, 97, 105, 108, 45, 99, 117, 115, 116, 111, 100, 121] : List UInt8) es).length : Int) then bif chB es bs kk == (true && srA (pkF ([109, 97, 105, 108, 45, 99, 117, 115, 116, 111, 100, 121] : List UInt8) es) kk ((pkF ([109, 97, 105, 108, 45, 99, 117, 115, 116, 111, 100, 121] : List UInt8) es).length - Int.toNat (0 : Int)) (0 : Nat)) then some (AV.bool true) else some (AV.bool false) else some (AV.bool false) else some (AV.bool false) else none else none else none else bif vdC es bs != (0 : Int) then bif chC es bs kk == vdC es bs && (chI es bs kk == vdI es bs && true) then bif chN es bs kk == (0 : Int) then bif !chB es bs kk then some (AV.bool true) else some (AV.bool false) else some (AV.bool false) else some (AV.bool false) else bif es.all okF && (small ([109, 97, 105, 108, 45, 99, 117, 115, 116, 111, 100, 121] : List UInt8).length && decide (es.length ≤ (1000000 : Nat))) then bif cnt (↑(pkF ([109, 97, 105, 108, 45, 99, 117, 115, 116, 111, 100, 121] : List UInt8) es).length : Int) (0 : Int) (pkF ([109, 97, 105, 108, 45, 99, 117, 115, 116, 111, 100, 121] : List UInt8) es).length && (pkF ([109, 97, 105, 108, 45, 99, 117, 115, 116, 111, 100, 121] : List UInt8) es).all shW && (small kk.length && decide ((pkF ([109, 97, 105, 108, 45, 99, 117, 115, 116, 111, 100, 121] : List UInt8) es).length ≤ (99 : Nat))) then bif decide ((↑(pkF ([109, 97, 105, 108, 45, 99, 117, 115, 116, 111, 100, 121] : List UInt8) es).length : Int) > (0 : Int)) then bif true && srA (pkF ([109, 97, 105, 108, 45, 99, 117, 115, 116, 111, 100, 121] : List UInt8) es) kk ((pkF ([109, 97, 105, 108, 45, 99, 117, 115, 116, 111, 100, 121] : List UInt8) es).length - Int.toNat (0 : Int)) (0 : Nat) then bif bs.all bE then bif inb (0 : Int) (pkF ([109, 97, 105, 108, 45, 99, 117, 115, 116, 111, 100, 121] : List UInt8) es).length then bif decide ((((pkF ([109, 97, 105, 108, 45, 99, 117, 115, 116, 111, 100, 121] : List UInt8) es).getD (0 : Nat) AV.unk).cells.headD AV.unk).toStr.length ≤ (100000 : Nat)) then bif cbC bs == (0 : Int) then bif inb (3 : Int) (soL (((pkF ([109, 97, 105, 108, 45, 99, 117, 115, 116, 111, 100, 121] : List UInt8) es).getD (0 : Nat) AV.unk).cells.headD AV.unk).toStr).length then bif small (cbB bs).length then bif uN (sumF (0 : Int) (cbB bs)) then bif chC es bs kk == (0 : Int) then bif chN es bs kk == (↑(pkF ([109, 97, 105, 108, 45, 99, 117, 115, 116, 111, 100, 121] : List UInt8) es).length : Int) then bif chB es bs kk == ((sE ((soL (((pkF ([109, 97, 105, 108, 45, 99, 117, 115, 116, 111, 100, 121] : List UInt8) es).getD (0 : Nat) AV.unk).cells.headD AV.unk).toStr).getD (Int.toNat (3 : Int)) AV.unk)) == hexS (sumF (0 : Int) (cbB bs))) then some (AV.bool true) else some (AV.bool false) else some (AV.bool false) else some (AV.bool false) else none else none else none else bif chC es bs kk == (0 : Int) then bif chN es bs kk == (↑(pkF ([109, 97, 105, 108, 45, 99, 117, 115, 116, 111, 100, 121] : List UInt8) es).length : Int) then bif chB es bs kk == false then some (AV.bool true) else some (AV.bool false) else some (AV.bool false) else some (AV.bool false) else none else none else none else bif chC es bs kk == (0 : Int) then bif chN es bs kk == (↑(pkF ([109, 97, 105, 108, 45, 99, 117, 115, 116, 111, 100, 121] : List UInt8) es).length : Int) then bif chB es bs kk == (true && srA (pkF ([109, 97, 105, 108, 45, 99, 117, 115, 116, 111, 100, 121] : List UInt8) es) kk ((pkF ([109, 97, 105, 108, 45, 99, 117, 115, 116, 111, 100, 121] : List UInt8) es).length - Int.toNat (0 : Int)) (0 : Nat)) then some (AV.bool true) else some (AV.bool false) else some (AV.bool false) else some (AV.bool false) else bif chC es bs kk == (0 : Int) then bif chN es bs kk == (↑(pkF ([109, 97, 105, 108, 45, 99, 117, 115, 116, 111, 100, 121] : List UInt8) es).length : Int) then bif chB es bs kk == (true && srA (pkF ([109, 97, 105, 108, 45, 99, 117, 115, 116, 111, 100, 121] : List UInt8) es) kk ((pkF ([109, 97, 105, 108, 45, 99, 117, 115, 116, 111, 100, 121] : List UInt8) es).length - Int.toNat (0 : Int)) (0 : Nat)) then some (AV.bool true) else some (AV.bool false) else some (AV.bool false) else some (AV.bool false) else none else none else none else none) (by kernel_rfl) ?_
  have hpk : pkF ([109, 97, 105, 108, 45, 99, 117, 115, 116, 111, 100, 121] : List UInt8) es = pkF cuF es := pkF_cu es
  rw [hpk]
  refine Eq.trans (cond_t (and_t (and_t hm.es hm.ok) (and_t (and_t hm.by_ hm.bs) (and_t hk.ks hk.ok)))) (Eq.trans (cond_t (and_t hm.es (and_t hm.ok hm.bs))) ?_)
  cases h1 : vdC es bs == 0
  · have hc : chC es bs kk = vdC es bs := by unfold chC; rw [h1]; rfl
    have hi : chI es bs kk = vdI es bs := by unfold chI; rw [h1]; rfl
    have hn : chN es bs kk = 0 := by unfold chN; rw [hc, h1]; rfl
    have hb : chB es bs kk = false := by unfold chB; rw [hc, h1]; rfl
    refine Eq.trans (cond_f rfl) (Eq.trans (cond_t (by simp only [bne, h1, Bool.not_false])) ?_)
    rw [hc, hi, hn, hb]
    simp only [beq_self_eq_true, Bool.and_true, cond_true, Bool.not_false]
  refine Eq.trans (cond_t rfl) (Eq.trans (cond_t (and_t hk.ks hk.ok)) ?_)
  cases h2 : kyC kk == 0
  · have hc : chC es bs kk = kyC kk := by unfold chC; rw [h1]; rfl
    have hi : chI es bs kk = kyI kk := by unfold chI; rw [h1]; rfl
    have hn : chN es bs kk = 0 := by unfold chN; rw [hc, h2]; rfl
    have hb : chB es bs kk = false := by unfold chB; rw [hc, h2]; rfl
    refine Eq.trans (cond_t (by simp only [bne, h2, Bool.not_false])) ?_
    rw [hc, hi, hn, hb]
    simp only [beq_self_eq_true, Bool.and_true, cond_true, Bool.not_false]
  have h60 := hv_len (vd_hv h1)
  have hpl := pkF_len cuF es
  have hps := pk_shW cuF (hv_ok (vd_hv h1))
  have hk0 : kyC kk = 0 := by simpa using h2
  have hc0 : chC es bs kk = 0 := by unfold chC; rw [h1]; exact hk0
  have hn0 : chN es bs kk = ((pkF cuF es).length : Nat) := by unfold chN; rw [hc0]; rfl
  have hb0 : chB es bs kk = chR es bs kk := by unfold chB; rw [hc0]; rfl
  refine Eq.trans (cond_f (by simp only [bne, h2, Bool.not_true])) (Eq.trans (cond_t (and_t hm.ok (and_t rfl (decide_eq_true (by omega))))) (Eq.trans (cond_t (and_t (and_t (cnt_zero (small_t (by omega))) hps) (and_t hk.ks (decide_eq_true (by omega))))) ?_))
  have hse : (((pkF cuF es).getD 0 AV.unk).cells.headD AV.unk).toStr = sE ((pkF cuF es).getD 0 .unk) := rfl
  have hX4 : (pkF cuF es).length - (0 : Int).toNat = (pkF cuF es).length := rfl
  have e3 : (3 : Int).toNat = 3 := rfl
  rw [hse, hX4, e3, hc0, hn0, hb0]
  by_cases h0 : 0 < (pkF cuF es).length
  · have hA := ck_all (kk := kk) (s := hexS (sumF 0 (cbB bs))) (show (pkF cuF es).length ≤ 99 by omega) h0
    have hz : (((pkF cuF es).length : Int) == 0) = false := beq_eq_false_iff_ne.2 (by omega)
    have hR : chR es bs kk = (srA (pkF cuF es) kk (pkF cuF es).length 0 && q5 (sE ((pkF cuF es).getD 0 .unk)) 3 == hexS (sumF 0 (cbB bs))) := by
      unfold chR
      rw [hA, hz, Bool.or_false]
    rw [hR]
    refine Eq.trans (cond_t (decide_eq_true (by omega))) ?_
    cases h5 : srA (pkF cuF es) kk (pkF cuF es).length 0
    · simp only [beq_self_eq_true, Bool.and_false, Bool.false_and, cond_true, cond_false]
    have hsw : shW ((pkF cuF es).getD 0 .unk) = true := all_getD (P := shW) hps h0
    unfold shW at hsw
    simp only [Bool.and_eq_true, decide_eq_true_eq] at hsw
    have hvl := hsw.2
    have hs0 : soB (sE ((pkF cuF es).getD 0 .unk)) = true := by
      obtain ⟨n, hn⟩ : ∃ n, (pkF cuF es).length = n + 1 := ⟨(pkF cuF es).length - 1, by omega⟩
      rw [hn, srA_succ, Bool.and_eq_true] at h5
      have h6 := h5.1
      unfold srL srB at h6
      rw [Bool.and_eq_true] at h6
      exact h6.1
    generalize sE ((pkF cuF es).getD 0 .unk) = v at hvl hs0 ⊢
    unfold soB at hs0
    simp only [Bool.and_eq_true] at hs0
    obtain ⟨⟨s1, s2⟩, _⟩ := hs0
    have hL : soL v = vs5 v := by unfold soL; rw [s1, s2]; rfl
    obtain ⟨i3, _⟩ := q5_len v 3 s1 (by decide)
    have hq : sE ((vs5 v).getD 3 .unk) = q5 v 3 := rfl
    have hcb := cbB_len bs
    rw [hL, hq]
    refine Eq.trans (cond_t rfl) (Eq.trans (cond_t hm.by_) (Eq.trans (cond_t (inb_true (by omega) (by omega))) (Eq.trans (cond_t (decide_eq_true (by omega))) (Eq.trans (cond_t (cbZ h1).1) (Eq.trans (cond_t (inb_true (by omega) (by omega))) (Eq.trans (cond_t (small_t (by omega))) (Eq.trans (cond_t (uN_sum _ _)) ?_)))))))
    simp only [beq_self_eq_true, Bool.true_and, cond_true]
  · have hl0 : (pkF cuF es).length = 0 := by omega
    have hR : chR es bs kk = true := by
      unfold chR
      rw [hl0]
      rfl
    rw [hR, hl0, decide_eq_false (by omega)]
    rfl
theorem okL10 : SumOK Tryz.prog 10 (evF Tryz.prog G10 [(10, l10)] Tryz.f10) := sum1 g10 Tryz.func10 (by kernel_rfl) (by kernel_rfl) loop10 fun _ _ _ _ h => h
theorem spec10 (H : Type) : ∀ ds : List (DataW H), ds.length = Tryz.f10.params.size → Rows.custodyCheckMatchesSpecSpec.fn H ds = { results := [.lit (.bool true)], args := ds }
  | [_, _], _ => rfl
set_option maxRecDepth 100000 in
theorem lifted10 (os : Os) (started : os.Started) (H : Type) (enc : TypeId × Value → H) :
    ReturnsInHanded {} Tryz.checked os 10 .any (fun w args => (Rows.custodyCheckMatchesSpecSpec.pre enc Tryz.prog Tryz.f10 Rows.custodyCheckMatchesSpecRow.domain false w args ∧ laidMetH Tryz.prog Rows.custodyCheckMatchesSpecRow.laid w) ∧ sizedMet enc Tryz.prog Tryz.f10 (OpenSpec.ofChange Rows.custodyCheckMatchesSpecSpec) false w args)
      (Rows.custodyCheckMatchesSpecSpec.post enc Tryz.prog Tryz.f10 false true false false) := by
  refine hand_shaped (C := Tryz.checked) (X := fun w _ => laidMetH Tryz.prog Rows.custodyCheckMatchesSpecRow.laid w) (fun _ _ _ hh h => h.of_heap hh) own started (by kernel_rfl) Tryz.func10
    (ChangeSpec.witness_shaped (enc := enc) (C := Tryz.checked) (os := os) (X := fun w _ => laidMetH Tryz.prog Rows.custodyCheckMatchesSpecRow.laid w) false (World.laidAll Tryz.prog os Rows.custodyCheckMatchesSpecRow.laid) #[.agg #[.slice none 0 0, .slice none 0 0], .slice none 0 0] 8 (World.laidAll_os _ _ _)
      (World.shaped_of_ZipB (by kernel_rfl) (by kernel_rfl)) (by kernel_rfl) (by kernel_rfl) (by kernel_rfl)
      (by rw [MakeChecks.laidMetH_plain _ _ _ (by kernel_rfl)]; exact laidMet_laidAll _ (by kernel_rfl) (by kernel_rfl))) ?_
  intro W base args ds gs before hval hW hz hsh
  refine contract_of (bk H) (n := 12) (tb := 4) (F := evF Tryz.prog G10 [(10, l10)] Tryz.f10) (by kernel_rfl) (by kernel_rfl) (by kernel_rfl) rfl (by kernel_rfl) (by kernel_rfl) (spec10 H) (okL10) (fun avs hg => ?_) hval hz hW (glb_of hsh)
  have hh : hasAll [.agg [.slice (.agg [.str, .str]), .slice (.int .u8)], .slice (.agg [.str, .int .u64])] avs = true := hg.has
  obtain ⟨v0, cs, rfl, h0, hh⟩ := hasAll_cons hh
  obtain ⟨v1, cs, rfl, h1, hh⟩ := hasAll_cons hh
  obtain rfl := hasAll_nil hh
  obtain ⟨es, bs, rfl, hm⟩ := open_msg h0 (hg.fit _ (by simp))
  obtain ⟨kk, rfl, hk⟩ := open_keys h1 (hg.fit _ (by simp))
  exact law10 es bs kk hm hk
theorem row_holds10 : Rows.CustodyCheckMatchesSpecSaid :=
  OpenClaim.holds_of_wide 10 Tryz.f10 rfl rfl rfl rfl rfl rfl rfl ⟨rfl, rfl, rfl, rfl, rfl⟩ rfl rfl rfl rfl rfl (by kernel_rfl) Tryz.func10 (by kernel_rfl)
    (of_decide_eq_true (by kernel_rfl)) (by unfold Func.isWrapper; first | (rw [if_pos (by decide +kernel)]; kernel_rfl) | (rw [if_neg (by decide +kernel)]; exact ⟨rfl, rfl⟩))
    (fun os started H enc _ => lifted10 os started H enc)
theorem custody_check_matches_spec : Rows.CustodyCheckMatchesSpecCardSaid :=
  Claim7.holds_tied_plain_at .later [] [.data, .data, .data, .data, .pinned] true (true, "c42626e2726d00c1893b9eec8006167c47ada7340b544c8011cb9df5be4c1095") false row_holds10 (fun _ h => by cases h) (by kernel_rfl) (fun _ h => by cases h) custodyCheckMatchesSpec_row_tie rfl ⟨rfl, rfl⟩ (by kernel_rfl) rfl
    (fun f fn hf hfn => by
      obtain rfl : f = 10 := Option.some.inj ((show Tryz.prog.funcNamed "posthouse/posthouselaw5.CustodyCheckMatchesSpec" = some 10 by kernel_rfl).symm.trans hf) |>.symm
      obtain rfl : fn = Tryz.f10 := (Option.some.inj (Tryz.func10.symm.trans hfn)).symm
      exact ⟨by kernel_rfl, fun j t ht => by
        have hm : t ∈ Tryz.f10.params.toList := Array.mem_def.1 (Array.mem_of_getElem? ht)
        have hall : (Tryz.f10.params.toList.all fun u => !Tryz.prog.wantsStandIn u) = true := by kernel_rfl
        exact (show Tryz.prog.wantsStandIn t = false by simpa using List.all_eq_true.1 hall t hm)⟩)
    (by kernel_rfl)
end Go.Proofs.YthdhfmdhjanoaaaGreatDoor
