/-
 The addresses that are reached,in plain Lean: breadth first,each of them once.
-/
import Derived.Test.YtijdnecnjenleaaGreatDoorKnD
import Derived.RangeFuncIn

namespace Go.Proofs.YtijdnecnjenleaaGreatDoor
open Go.Ev
def hpS (s p : List UInt8) : Bool:=decide ((s.length : Int) ≥ (p.length : Int)) && (s.take p.length == p)
def hsS (s p : List UInt8) : Bool:=decide ((s.length : Int) ≥ (p.length : Int)) && (s.drop (s.length - p.length) == p)
def F160 : List AV → Tr AV
 | [.str s,.str p]=>.gd (small s.length) (.leaf (.bool (hpS s p)))
 | _=>.no
theorem ok160 : SumOK Tryz.prog 160 (ofT F160) ∧ SNat (ofT F160):=by
 refine fn0 gE Tryz.func160 (by kernel_rfl) fun ρ avs k r h=>?_
 unfold F160 at h
 split at h
 ·rename_i s p
  obtain ⟨hc,hk⟩:=gd_some h
  refine Eq.trans (b:=bif decide ((↑s.length : Int) ≥ (↑p.length : Int)) then bif slb (0 : Int) (↑p.length : Int) s.length then k (AV.bool (List.take ((↑p.length : Int).toNat - Int.toNat (0 : Int)) (List.drop (0 : Nat) s) == p)) else none else k (AV.bool false)) (by kernel_rfl) ?_
  rw [← hk]
  show _ = k (.bool (decide ((s.length : Int) ≥ (p.length : Int)) && (s.take p.length == p)))
  by_cases hle : p.length ≤ s.length
  ·rw [decide_eq_true (by omega),cond_true,slb_true (by omega) (by omega) (by omega),cond_true,Int.toNat_natCast]
   rfl
  ·rw [decide_eq_false (by omega)]
   rfl
 ·cases h
def F161 : List AV → Tr AV
 | [.str s,.str p]=>.gd (small s.length) (.leaf (.bool (hsS s p)))
 | _=>.no
theorem ok161 : SumOK Tryz.prog 161 (ofT F161) ∧ SNat (ofT F161):=by
 refine fn0 gE Tryz.func161 (by kernel_rfl) fun ρ avs k r h=>?_
 unfold F161 at h
 split at h
 ·rename_i s p
  obtain ⟨hc,hk⟩:=gd_some h
  refine Eq.trans (b:=bif decide ((↑s.length : Int) ≥ (↑p.length : Int)) then bif slb (IntKind.i64.wrap ((↑s.length : Int) - (↑p.length : Int))) (↑s.length : Int) s.length then k (AV.bool (List.take ((↑s.length : Int).toNat - (IntKind.i64.wrap ((↑s.length : Int) - (↑p.length : Int))).toNat) (List.drop (IntKind.i64.wrap ((↑s.length : Int) - (↑p.length : Int))).toNat s) == p)) else none else k (AV.bool false)) (by kernel_rfl) ?_
  rw [← hk]
  show _ = k (.bool (decide ((s.length : Int) ≥ (p.length : Int)) && (s.drop (s.length - p.length) == p)))
  have hs:=of_decide_eq_true hc
  by_cases hle : p.length ≤ s.length
  ·have hw : IntKind.i64.wrap ((s.length : Int) - (p.length : Int)) = ((s.length - p.length : Nat) : Int):=by rw [wrap_small _ (by omega) (by omega)];omega
   rw [decide_eq_true (by omega),cond_true,hw,slb_true (by omega) (by omega) (by omega),cond_true,Int.toNat_natCast,Int.toNat_natCast,List.take_of_length_le (by rw [List.length_drop];omega)]
   rfl
  ·rw [decide_eq_false (by omega)]
   rfl
 ·cases h
noncomputable def G127 : Env:={ pure:=[(160,ofT F160),(161,ofT F161)] }
theorem g127 : GOK Tryz.prog G127:=GOK.also (GOK.also gE ok161) ok160
def F127 : List AV → Tr AV
 | [.str s,.str p]=>.gd (small s.length) (.leaf (.bool (hpS s p)))
 | _=>.no
theorem ok127 : SumOK Tryz.prog 127 (ofT F127) ∧ SNat (ofT F127):=by
 refine fn0 g127 Tryz.func127 (by kernel_rfl) fun ρ avs k r h=>?_
 unfold F127 at h
 split at h
 ·rename_i s p
  obtain ⟨hc,hk⟩:=gd_some h
  refine Eq.trans (b:=bif small s.length then k (AV.bool (hpS s p)) else none) (by kernel_rfl) ?_
  rw [← hk,hc]
  rfl
 ·cases h
def F128 : List AV → Tr AV
 | [.str s,.str p]=>.gd (small s.length) (.leaf (.bool (hsS s p)))
 | _=>.no
theorem ok128 : SumOK Tryz.prog 128 (ofT F128) ∧ SNat (ofT F128):=by
 refine fn0 g127 Tryz.func128 (by kernel_rfl) fun ρ avs k r h=>?_
 unfold F128 at h
 split at h
 ·rename_i s p
  obtain ⟨hc,hk⟩:=gd_some h
  refine Eq.trans (b:=bif small s.length then k (AV.bool (hsS s p)) else none) (by kernel_rfl) ?_
  rw [← hk,hc]
  rfl
 ·cases h
noncomputable def G85d : Env:={ pure:=[(84,ofT F84b),(127,ofT F127),(128,ofT F128),(129,ofT F129)] }
theorem g85d : GOK Tryz.prog G85d:=GOK.also (GOK.also (GOK.also (GOK.also gE ok129) ok128) ok127) ok84b
def domB (s : List UInt8) : Bool:=!(s == []) && (decide ((s.length : Int) ≤ 60) && (allN smI s && (!hpS s [46] && (!hsS s [46] && !ctS s [46,46]))))
def F85 : List AV → Tr AV
 | [.str s]=>.gd (small s.length) (.leaf (.bool (domB s)))
 | _=>.no
theorem ok85 : SumOK Tryz.prog 85 (ofT F85) ∧ SNat (ofT F85):=by
 refine fn0 g85d Tryz.func85 (by kernel_rfl) fun ρ avs k r h=>?_
 unfold F85 at h
 split at h
 ·rename_i s
  obtain ⟨hc,hk⟩:=gd_some h
  refine Eq.trans (b:=bif !s == ([] : List UInt8) then bif decide ((↑s.length : Int) ≤ (60 : Int)) then bif small s.length then bif allN smI s then bif small s.length then bif !hpS s ([46] : List UInt8) then bif small s.length then bif !hsS s ([46] : List UInt8) then bif smallX s.length then k (AV.bool !ctS s ([46,46] : List UInt8)) else none else k (AV.bool false) else none else k (AV.bool false) else none else k (AV.bool false) else none else k (AV.bool false) else k (AV.bool false)) (by kernel_rfl) ?_
  rw [← hk,hc]
  show _ = k (.bool (!(s == []) && (decide ((s.length : Int) ≤ 60) && (allN smI s && (!hpS s [46] && (!hsS s [46] && !ctS s [46,46]))))))
  by_cases h60 : (s.length : Int) ≤ 60
  ·have e1 : smallX s.length = true:=decide_eq_true (by omega)
   rw [e1]
   cases s == [] <;> cases decide ((s.length : Int) ≤ 60) <;> cases allN smI s <;> cases hpS s [46] <;> cases hsS s [46] <;> rfl
  ·rw [decide_eq_false h60]
   cases s == [] <;> rfl
 ·cases h
def atN (s : List UInt8) : Nat:=(idxB s 64).toNat
def hatS (s : List UInt8) : Bool:=decide (idxB s 64 ≥ 0)
def locS (s : List UInt8) : List UInt8:=bif hatS s then s.take (atN s) else s
def dmnS (s : List UInt8) : List UInt8:=bif hatS s then s.drop (atN s + 1) else []
theorem idxB_lt (s : List UInt8) (c : Int) : idxB s c < s.length ∨ idxB s c = -1:=by
 unfold idxB
 rcases Int.lt_or_le (Lib.indexByte s c.toNat.toUInt8) 0 with h | h
 ·have:=Lib.indexByte_ge s c.toNat.toUInt8
  exact .inr (by omega)
 ·obtain ⟨n,hn⟩ : ∃ n : Nat,Lib.indexByte s c.toNat.toUInt8 = n:=⟨_,(Int.toNat_of_nonneg h).symm⟩
  have:=(Lib.indexByte_some hn).1
  obtain ⟨hlt,_⟩:=List.getElem?_eq_some_iff.1 this
  exact .inl (by omega)
theorem cut_len (s : List UInt8) : (locS s).length ≤ s.length ∧ (dmnS s).length ≤ s.length:=by
 unfold locS dmnS
 cases hatS s
 ·exact ⟨Nat.le_refl _,Nat.zero_le _⟩
 ·exact ⟨by rw [cond_true,List.length_take];omega,by rw [cond_true,List.length_drop];omega⟩
noncomputable def G158c : Env:={ pure:=[(125,ofT F125)] }
theorem g158c : GOK Tryz.prog G158c:=GOK.also gE ok125
noncomputable def b158 : Code:=((Tryz.f158.body.map loopsOf).getD []).headD .skip
def l158 : Ev.Loop:=⟨{ len:=143,slots:=[] },ofL fun _ _=>.no⟩
theorem loop158 : LoopOK Tryz.prog G158c [(15,l158)] b158 l158:=by
 refine loopOK_of g158c.natOK rfl (KOK.nil (by kernel_rfl)) (fun _ _=>0) (fun ρ vs rs k r h=>?_) (fun _ vs rs k=>rfl)
 cases h
def F158c : List AV → Tr AV
 | [.str s,.str [64]]=>.gd (small s.length) (.leaf (.int .i64 (idxB s 64)))
 | _=>.no
theorem ok158c : SumOK Tryz.prog 158 (ofT F158c) ∧ SNat (ofT F158c):=by
 refine fn1 (K:=[(15,l158)]) (b:=b158) (l:=l158) g158c Tryz.func158 (by kernel_rfl) (by kernel_rfl) loop158 fun ρ avs k r h=>?_
 unfold F158c at h
 split at h
 ·rename_i s
  obtain ⟨hc,hk⟩:=gd_some h
  refine Eq.trans (b:=bif [(64 : UInt8)] == s then k (AV.int .i64 0) else k (AV.int .i64 (idxB s (↑([(64 : UInt8)].getD (0 : Nat) (0 : UInt8)).toNat : Int)))) (by kernel_rfl) ?_
  rw [← hk]
  cases hb : ([64] : List UInt8) == s with
  | true=>obtain rfl:=eq_of_beq hb;rfl
  | false=>rfl
 ·cases h
noncomputable def G124 : Env:={ pure:=[(158,ofT F158c)] }
theorem g124 : GOK Tryz.prog G124:=GOK.also gE ok158c
def F124 : List AV → Tr AV
 | [.str s,.str [64]]=>.gd (smallS s.length) (.leaf (.tup [.str (locS s),.str (dmnS s),.bool (hatS s)]))
 | _=>.no
theorem ok124 : SumOK Tryz.prog 124 (ofT F124) ∧ SNat (ofT F124):=by
 refine fn0 g124 Tryz.func124 (by kernel_rfl) fun ρ avs k r h=>?_
 unfold F124 at h
 split at h
 ·rename_i s
  obtain ⟨hc,hk⟩:=gd_some h
  have hl:=of_decide_eq_true hc
  have e1 : small s.length = true:=decide_eq_true (by omega)
  refine Eq.trans (b:=bif small s.length then bif decide (idxB s (64 : Int) ≥ (0 : Int)) then bif slb (0 : Int) (idxB s (64 : Int)) s.length then bif slb (IntKind.i64.wrap (idxB s (64 : Int) + (↑[(64 : UInt8)].length : Int))) (↑s.length : Int) s.length then k (AV.tup [AV.str (List.take ((idxB s (64 : Int)).toNat - Int.toNat (0 : Int)) (List.drop (0 : Nat) s)),AV.str (List.take ((↑s.length : Int).toNat - (IntKind.i64.wrap (idxB s (64 : Int) + (↑[(64 : UInt8)].length : Int))).toNat) (List.drop (IntKind.i64.wrap (idxB s (64 : Int) + (↑[(64 : UInt8)].length : Int))).toNat s)),AV.bool true]) else none else none else k (AV.tup [AV.str s,AV.str [],AV.bool false]) else none) (by kernel_rfl) ?_
  rw [← hk,e1]
  show _ = k (.tup [.str (bif decide (idxB s 64 ≥ 0) then s.take (atN s) else s),.str (bif decide (idxB s 64 ≥ 0) then s.drop (atN s + 1) else []),.bool (decide (idxB s 64 ≥ 0))])
  by_cases h : idxB s 64 ≥ 0
  ·have hlt : idxB s 64 < s.length:=by rcases idxB_lt s 64 with h' | h' <;> omega
   obtain ⟨n,hn⟩ : ∃ n : Nat,idxB s 64 = n:=⟨_,(Int.toNat_of_nonneg h).symm⟩
   rw [decide_eq_true h]
   unfold atN
   rw [hn] at hlt ⊢
   have e2 : slb 0 (n : Int) s.length = true:=slb_true (by omega) (by omega) (by omega)
   have e3 : IntKind.i64.wrap ((n : Int) + (([64] : List UInt8).length : Nat)) = ((n + 1 : Nat) : Int):=by rw [List.length_singleton,wrap_small _ (by omega) (by omega)];omega
   have e4 : slb ((n + 1 : Nat) : Int) (s.length : Int) s.length = true:=slb_true (by omega) (by omega) (by omega)
   have e5 : List.take (s.length - (n + 1)) (s.drop (n + 1)) = s.drop (n + 1):=List.take_of_length_le (by rw [List.length_drop];omega)
   simp only [e2,e3,e4,e5,cond_true,Int.toNat_natCast]
   rfl
  ·rw [decide_eq_false h]
   rfl
 ·cases h
noncomputable def G80 : Env:={ pure:=[(124,ofT F124)] }
theorem g80 : GOK Tryz.prog G80:=GOK.also gE ok124
def F80 : List AV → Tr AV
 | [.str s,.str [64]]=>.gd (smallS s.length) (.leaf (.tup [.str (locS s),.str (dmnS s),.bool (hatS s)]))
 | _=>.no
theorem ok80 : SumOK Tryz.prog 80 (ofT F80) ∧ SNat (ofT F80):=by
 refine fn0 g80 Tryz.func80 (by kernel_rfl) fun ρ avs k r h=>?_
 unfold F80 at h
 split at h
 ·rename_i s
  obtain ⟨hc,hk⟩:=gd_some h
  refine Eq.trans (b:=bif smallS s.length then k (AV.tup [AV.str (locS s),AV.str (dmnS s),AV.bool (hatS s)]) else none) (by kernel_rfl) ?_
  rw [← hk,hc]
  rfl
 ·cases h
noncomputable def G49 : Env:={ pure:=[(80,ofT F80),(84,ofT F84a),(85,ofT F85)] }
theorem g49 : GOK Tryz.prog G49:=GOK.also (GOK.also (GOK.also gE ok85) ok84a) ok80
def adB (s : List UInt8) : Bool:=hatS s && (!(locS s == []) && (decide (((locS s).length : Int) ≤ 60) && (allN gdI (locS s) && domB (dmnS s))))
def F49 : List AV → Tr AV
 | [.str s]=>.gd (smallS s.length) (.leaf (.tup [.str (locS s),.str (dmnS s),.bool (adB s)]))
 | _=>.no
theorem ok49 : SumOK Tryz.prog 49 (ofT F49) ∧ SNat (ofT F49):=by
 refine fn0 g49 Tryz.func49 (by kernel_rfl) fun ρ avs k r h=>?_
 unfold F49 at h
 split at h
 ·rename_i s
  obtain ⟨hc,hk⟩:=gd_some h
  have hl:=of_decide_eq_true hc
  obtain ⟨h1,h2⟩:=cut_len s
  refine Eq.trans (b:=bif smallS s.length then bif hatS s then bif !locS s == ([] : List UInt8) then bif decide ((↑(locS s).length : Int) ≤ (60 : Int)) then bif small (locS s).length then bif allN gdI (locS s) then bif small (dmnS s).length then k (AV.tup [AV.str (locS s),AV.str (dmnS s),AV.bool (domB (dmnS s))]) else none else k (AV.tup [AV.str (locS s),AV.str (dmnS s),AV.bool false]) else none else k (AV.tup [AV.str (locS s),AV.str (dmnS s),AV.bool false]) else k (AV.tup [AV.str (locS s),AV.str (dmnS s),AV.bool false]) else k (AV.tup [AV.str (locS s),AV.str (dmnS s),AV.bool false]) else none) (by kernel_rfl) ?_
  rw [← hk,hc]
  have e1 : small (locS s).length = true:=decide_eq_true (by omega)
  have e2 : small (dmnS s).length = true:=decide_eq_true (by omega)
  rw [e1,e2]
  show _ = k (.tup [.str (locS s),.str (dmnS s),.bool (hatS s && (!(locS s == []) && (decide (((locS s).length : Int) ≤ 60) && (allN gdI (locS s) && domB (dmnS s)))))])
  cases hatS s <;> cases locS s == [] <;> cases decide (((locS s).length : Int) ≤ 60) <;> cases allN gdI (locS s) <;> rfl
 ·cases h
noncomputable def G53 : Env:={ pure:=[(49,ofT F49)] }
theorem g53 : GOK Tryz.prog G53:=GOK.also gE ok49
def F53 : List AV → Tr AV
 | [.str s]=>.gd (smallS s.length) (.leaf (.bool (adB s)))
 | _=>.no
theorem ok53 : SumOK Tryz.prog 53 (ofT F53) ∧ SNat (ofT F53):=by
 refine fn0 g53 Tryz.func53 (by kernel_rfl) fun ρ avs k r h=>?_
 unfold F53 at h
 split at h
 ·rename_i s
  obtain ⟨hc,hk⟩:=gd_some h
  refine Eq.trans (b:=bif smallS s.length then k (AV.bool (adB s)) else none) (by kernel_rfl) ?_
  rw [← hk,hc]
  rfl
 ·cases h
def ntB (n : Int) : Bool:=inR n 0 7
def F58 : List AV → Tr AV
 | [.int .i64 n]=>.leaf (.bool (ntB n))
 | _=>.no
theorem ok58 : SumOK Tryz.prog 58 (ofT F58) ∧ SNat (ofT F58):=by
 refine fn0 gE Tryz.func58 (by kernel_rfl) fun ρ avs k r h=>?_
 unfold F58 at h
 split at h
 ·rename_i n
  have hk:=h
  refine Eq.trans (b:=bif decide (n ≥ (0 : Int)) then k (AV.bool (decide (n ≤ (7 : Int)))) else k (AV.bool false)) (by kernel_rfl) ?_
  rw [← hk]
  show _ = k (.bool (decide (0 ≤ n) && decide (n ≤ 7)))
  cases decide (n ≥ 0) <;> rfl
 ·cases h
def F27 : List AV → Tr AV
 | [.agg [.int .i64 c,.int .i64 _p]]=>.leaf (.bool (c != 0))
 | _=>.no
theorem ok27 : SumOK Tryz.prog 27 (ofT F27) ∧ SNat (ofT F27):=by
 refine fn0 gE Tryz.func27 (by kernel_rfl) fun ρ avs k r h=>?_
 unfold F27 at h
 split at h
 ·rename_i c p
  have hk:=h
  exact Eq.trans (by kernel_rfl) hk
 ·cases h
def F29 : List AV → Tr AV
 | [.int .i64 c,.int .i64 p]=>.leaf (.agg [.int .i64 c,.int .i64 p])
 | _=>.no
theorem ok29 : SumOK Tryz.prog 29 (ofT F29) ∧ SNat (ofT F29):=by
 refine fn0 gE Tryz.func29 (by kernel_rfl) fun ρ avs k r h=>?_
 unfold F29 at h
 split at h
 ·rename_i c p
  have hk:=h
  exact Eq.trans (by kernel_rfl) hk
 ·cases h
def F39 : List AV → Tr AV
 | []=>.leaf (.agg [.int .i64 0,.int .i64 0])
 | _=>.no
theorem ok39 : SumOK Tryz.prog 39 (ofT F39) ∧ SNat (ofT F39):=by
 refine fn0 gE Tryz.func39 (by kernel_rfl) fun ρ avs k r h=>?_
 unfold F39 at h
 split at h
 ·have hk:=h
  exact Eq.trans (by kernel_rfl) hk
 ·cases h
end Go.Proofs.YtijdnecnjenleaaGreatDoor


namespace Go.Proofs.YtijdnecnjenleaaGreatDoor
open Go.Ev
def pS (e : AV) : List UInt8:=(e.cells.headD .unk).toStr
def pT (e : AV) : List AV:=(e.cells.tail.headD .unk).toList
def smT (e : AV) : Bool:=smallS (pS e).length
def iZ (x : Option Nat) : Int:=match x with
 | some n=>n
 | none=>-1
noncomputable def GA : Env:={ pure:=[(53,ofT F53)] }
theorem gA : GOK Tryz.prog GA:=GOK.also gE ok53
def F89 : List AV → Tr AV
 | [.str s]=>.gd (smallS s.length) (.leaf (.bool (!adB s)))
 | _=>.no
theorem ok89 : SumOK Tryz.prog 89 (ofT F89) ∧ SNat (ofT F89):=by
 refine fn0 gA Tryz.func89 (by kernel_rfl) fun ρ avs k r h=>?_
 unfold F89 at h
 split at h
 ·rename_i s
  obtain ⟨hc,hk⟩:=gd_some h
  refine Eq.trans (b:=bif smallS s.length then k (AV.bool !adB s) else none) (by kernel_rfl) ?_
  rw [← hk,hc]
  rfl
 ·cases h
noncomputable def b131 : Code:=((Tryz.f131.body.map loopsOf).getD []).headD .skip
noncomputable def G131 : Env:={ pure:=[(89,ofT F89)] }
theorem g131 : GOK Tryz.prog G131:=GOK.also gE ok89
def noA (e : AV) : Bool:=!adB (pS e)
def fA (es : List AV) (i : Nat) : Option Nat:=findN (fun i=>noA (es.getD i .unk)) es.length i
def L131 : List AV → List (Option Row) → Tr LOut
 | [.slv .str es,.fn 89 [],.int .i64 z,.int .i64 n,.int .i64 i],[] =>
  .gd (cnt n i es.length && es.all smT) (sT (fun i=>noA (es.getD i .unk)) es.length (fun q=>.leaf (.ret,[.slv .str es,.fn 89 [],.int .i64 (q : Nat),.int .i64 es.length,.int .i64 (q : Nat)],[]))
   (.leaf (.exit 0,[.slv .str es,.fn 89 [],.int .i64 z,.int .i64 es.length,.int .i64 es.length],[])) i.toNat)
 | _,_=>.no
def l131 : Ev.Loop:=⟨{ len:=19,slots:=[0,1,4,7,8] },ofL L131⟩
def μ131 (vs : List AV) (_ : List (Option Row)) : Nat:=match vs with
 | [_,_,_,.int _ n,.int _ i]=>(n - i).toNat
 | _=>0
theorem all_at {p : AV → Bool} {es : List AV} (h : es.all p = true) {j : Nat} (hj : j < es.length) : p (es.getD j .unk) = true:=by
 rw [List.getD,List.getElem?_eq_getElem hj]
 exact List.all_eq_true.1 h _ (List.getElem_mem hj)
theorem loop131 : LoopOK Tryz.prog G131 [(2,l131)] b131 l131:=by
 refine loopT g131.natOK rfl (KOK.nil (by kernel_rfl)) μ131 (fun ρ vs rs k r h=>?_)
 unfold L131 at h
 split at h
 ·rename_i es z n i
  obtain ⟨hc,hk⟩:=gd_some h
  simp only [Bool.and_eq_true] at hc
  obtain ⟨hc,hall⟩:=hc
  obtain ⟨rfl,hs,j,rfl,hj⟩:=cnt_spec hc
  rw [Int.toNat_natCast] at hk
  refine Eq.trans (b:=bif decide ((↑j : Int) < (↑es.length : Int)) then bif inb (↑j : Int) es.length then bif smallS (pS (es.getD j AV.unk)).length then bif !adB (pS (es.getD j AV.unk)) then k Ex.ret [AV.slv Sh.str es,AV.fn (89 : Nat) [],AV.int .i64 (↑j : Int),AV.int .i64 (↑es.length : Int),AV.int .i64 (↑j : Int)] [] else bif decide (((↑es.length : Int) - IntKind.i64.wrap ((↑j : Int) + (1 : Int))).toNat < ((↑es.length : Int) - (↑j : Int)).toNat) then bif cnt (↑es.length : Int) (IntKind.i64.wrap ((↑j : Int) + (1 : Int))) es.length && es.all smT then bif (findN (fun i=>noA (es.getD i AV.unk)) es.length (IntKind.i64.wrap ((↑j : Int) + (1 : Int))).toNat).isSome then k Ex.ret [AV.slv Sh.str es,AV.fn (89 : Nat) [],AV.int .i64 (↑((findN (fun i=>noA (es.getD i AV.unk)) es.length (IntKind.i64.wrap ((↑j : Int) + (1 : Int))).toNat).getD (0 : Nat)) : Int),AV.int .i64 (↑es.length : Int),AV.int .i64 (↑((findN (fun i=>noA (es.getD i AV.unk)) es.length (IntKind.i64.wrap ((↑j : Int) + (1 : Int))).toNat).getD (0 : Nat)) : Int)] [] else k (Ex.exit (0 : Nat)) [AV.slv Sh.str es,AV.fn (89 : Nat) [],AV.int .i64 z,AV.int .i64 (↑es.length : Int),AV.int .i64 (↑es.length : Int)] [] else none else none else none else none else k (Ex.exit (0 : Nat)) [AV.slv Sh.str es,AV.fn (89 : Nat) [],AV.int .i64 z,AV.int .i64 (↑es.length : Int),AV.int .i64 (↑j : Int)] []) (by kernel_rfl) ?_
  rw [← hk]
  by_cases hlt : j < es.length
  ·obtain ⟨e1,e2,e3,e4,e5⟩:=cnt_facts hlt hs
   rw [sT_step _ _ _ _ _ hlt]
   have e6 : smallS (pS (es.getD j .unk)).length = true:=all_at hall hlt
   have e7 : noA (es.getD j .unk) = !adB (pS (es.getD j .unk)):=rfl
   simp only [e1,e2,e3,e4,e5,e6,e7,hall,cond_true,Int.toNat_natCast]
   generalize adB (pS (es.getD j .unk)) = a1
   cases a1 <;> rfl
  ·obtain rfl : j = es.length:=by omega
   rw [decide_eq_false (by omega),sT_end]
   rfl
 ·cases h
def F131 : List AV → Tr AV
 | [.slv .str es,.fn 89 []]=>.gd (small es.length && es.all smT) (.leaf (.int .i64 (iZ (fA es 0))))
 | _=>.no
theorem ok131 : SumOK Tryz.prog 131 (ofT F131) ∧ SNat (ofT F131):=by
 refine fn1 (K:=[(2,l131)]) (b:=b131) (l:=l131) g131 Tryz.func131 (by kernel_rfl) (by kernel_rfl) loop131 fun ρ avs k r h=>?_
 unfold F131 at h
 split at h
 ·rename_i es
  obtain ⟨hc,hk⟩:=gd_some h
  simp only [Bool.and_eq_true] at hc
  refine Eq.trans (b:=bif cnt (↑es.length : Int) (0 : Int) es.length && es.all smT then bif (findN (fun i=>noA (es.getD i AV.unk)) es.length (0 : Nat)).isSome then k (AV.int .i64 (↑((findN (fun i=>noA (es.getD i AV.unk)) es.length (0 : Nat)).getD (0 : Nat)) : Int)) else k (AV.int .i64 (-1 : Int)) else none) (by kernel_rfl) ?_
  rw [← hk,cnt_zero hc.1,hc.2]
  show (bif true then bif (fA es 0).isSome then k (.int .i64 (((fA es 0).getD 0 : Nat) : Int)) else k (.int .i64 (-1)) else none) = _
  cases fA es 0 <;> rfl
 ·cases h
noncomputable def G88 : Env:={ pure:=[(131,ofT F131)] }
theorem g88 : GOK Tryz.prog G88:=GOK.also gE ok131
def F88 : List AV → Tr AV
 | [.slv .str es,.fn 89 []]=>.gd (small es.length && es.all smT) (.leaf (.bool (decide (iZ (fA es 0) ≥ 0))))
 | _=>.no
theorem ok88 : SumOK Tryz.prog 88 (ofT F88) ∧ SNat (ofT F88):=by
 refine fn0 g88 Tryz.func88 (by kernel_rfl) fun ρ avs k r h=>?_
 unfold F88 at h
 split at h
 ·rename_i es
  obtain ⟨hc,hk⟩:=gd_some h
  refine Eq.trans (b:=bif small es.length && es.all smT then k (AV.bool (decide (iZ (fA es (0 : Nat)) ≥ (0 : Int)))) else none) (by kernel_rfl) ?_
  rw [← hk,hc]
  rfl
 ·cases h
abbrev sA : Sh:=.agg [.str,.slice .str]
def isA (d : List UInt8) (e : AV) : Bool:=pS e == d
def fB (d : List UInt8) (es : List AV) (i : Nat) : Option Nat:=findN (fun i=>isA d (es.getD i .unk)) es.length i
noncomputable def G132 : Env:={ pure:=[(91,evF Tryz.prog G0 [] Tryz.f91)] }
theorem g132 : GOK Tryz.prog G132:=GOK.also gE (inl gE Tryz.func91 (by kernel_rfl))
noncomputable def b132 : Code:=((Tryz.f132.body.map loopsOf).getD []).headD .skip
def L132 : List AV → List (Option Row) → Tr LOut
 | [.slv (.agg [.str,.slice .str]) es,.fn 91 [.ref [.str d,.slv s0 rs]],.int .i64 z,.int .i64 n,.int .i64 i],[] =>
  .gd (cnt n i es.length) (sT (fun i=>isA d (es.getD i .unk)) es.length (fun q=>.leaf (.ret,[.slv sA es,.fn 91 [.ref [.str d,.slv s0 rs]],.int .i64 (q : Nat),.int .i64 es.length,.int .i64 (q : Nat)],[]))
   (.leaf (.exit 0,[.slv sA es,.fn 91 [.ref [.str d,.slv s0 rs]],.int .i64 z,.int .i64 es.length,.int .i64 es.length],[])) i.toNat)
 | _,_=>.no
def l132 : Ev.Loop:=⟨{ len:=19,slots:=[0,1,4,7,8] },ofL L132⟩
theorem loop132 : LoopOK Tryz.prog G132 [(2,l132)] b132 l132:=by
 refine loopT g132.natOK rfl (KOK.nil (by kernel_rfl)) μ131 (fun ρ vs rs k r h=>?_)
 unfold L132 at h
 split at h
 ·rename_i es d s0 rs z n i
  obtain ⟨hc,hk⟩:=gd_some h
  obtain ⟨rfl,hs,j,rfl,hj⟩:=cnt_spec hc
  rw [Int.toNat_natCast] at hk
  refine Eq.trans (b:=bif decide ((↑j : Int) < (↑es.length : Int)) then bif inb (↑j : Int) es.length then bif (pS (es.getD j AV.unk)) == d then k Ex.ret [AV.slv (Sh.agg [Sh.str,Sh.str.slice]) es,AV.fn (91 : Nat) [AV.ref [AV.str d,AV.slv s0 rs]],AV.int .i64 (↑j : Int),AV.int .i64 (↑es.length : Int),AV.int .i64 (↑j : Int)] [] else bif decide (((↑es.length : Int) - IntKind.i64.wrap ((↑j : Int) + (1 : Int))).toNat < ((↑es.length : Int) - (↑j : Int)).toNat) then bif cnt (↑es.length : Int) (IntKind.i64.wrap ((↑j : Int) + (1 : Int))) es.length then bif (findN (fun i=>isA d (es.getD i AV.unk)) es.length (IntKind.i64.wrap ((↑j : Int) + (1 : Int))).toNat).isSome then k Ex.ret [AV.slv (Sh.agg [Sh.str,Sh.str.slice]) es,AV.fn (91 : Nat) [AV.ref [AV.str d,AV.slv s0 rs]],AV.int .i64 (↑((findN (fun i=>isA d (es.getD i AV.unk)) es.length (IntKind.i64.wrap ((↑j : Int) + (1 : Int))).toNat).getD (0 : Nat)) : Int),AV.int .i64 (↑es.length : Int),AV.int .i64 (↑((findN (fun i=>isA d (es.getD i AV.unk)) es.length (IntKind.i64.wrap ((↑j : Int) + (1 : Int))).toNat).getD (0 : Nat)) : Int)] [] else k (Ex.exit (0 : Nat)) [AV.slv (Sh.agg [Sh.str,Sh.str.slice]) es,AV.fn (91 : Nat) [AV.ref [AV.str d,AV.slv s0 rs]],AV.int .i64 z,AV.int .i64 (↑es.length : Int),AV.int .i64 (↑es.length : Int)] [] else none else none else none else k (Ex.exit (0 : Nat)) [AV.slv (Sh.agg [Sh.str,Sh.str.slice]) es,AV.fn (91 : Nat) [AV.ref [AV.str d,AV.slv s0 rs]],AV.int .i64 z,AV.int .i64 (↑es.length : Int),AV.int .i64 (↑j : Int)] []) (by kernel_rfl) ?_
  rw [← hk]
  by_cases hlt : j < es.length
  ·obtain ⟨e1,e2,e3,e4,e5⟩:=cnt_facts hlt hs
   rw [sT_step _ _ _ _ _ hlt]
   have e7 : isA d (es.getD j .unk) = (pS (es.getD j .unk) == d):=rfl
   simp only [e1,e2,e3,e4,e5,e7,cond_true,Int.toNat_natCast]
   generalize (pS (es.getD j .unk) == d) = a1
   cases a1 <;> rfl
  ·obtain rfl : j = es.length:=by omega
   rw [decide_eq_false (by omega),sT_end]
   rfl
 ·cases h
def F132 : List AV → Tr AV
 | [.slv (.agg [.str,.slice .str]) es,.fn 91 [.ref [.str d,.slv _ _]]]=>.gd (small es.length) (.leaf (.int .i64 (iZ (fB d es 0))))
 | _=>.no
theorem ok132 : SumOK Tryz.prog 132 (ofT F132) ∧ SNat (ofT F132):=by
 refine fn1 (K:=[(2,l132)]) (b:=b132) (l:=l132) g132 Tryz.func132 (by kernel_rfl) (by kernel_rfl) loop132 fun ρ avs k r h=>?_
 unfold F132 at h
 split at h
 ·rename_i es d s0 rs
  obtain ⟨hc,hk⟩:=gd_some h
  refine Eq.trans (b:=bif cnt (↑es.length : Int) (0 : Int) es.length then bif (findN (fun i=>isA d (es.getD i AV.unk)) es.length (0 : Nat)).isSome then k (AV.int .i64 (↑((findN (fun i=>isA d (es.getD i AV.unk)) es.length (0 : Nat)).getD (0 : Nat)) : Int)) else k (AV.int .i64 (-1 : Int)) else none) (by kernel_rfl) ?_
  rw [← hk,cnt_zero hc]
  show (bif true then bif (fB d es 0).isSome then k (.int .i64 (((fB d es 0).getD 0 : Nat) : Int)) else k (.int .i64 (-1)) else none) = _
  cases fB d es 0 <;> rfl
 ·cases h
noncomputable def G90 : Env:={ pure:=[(132,ofT F132)] }
theorem g90 : GOK Tryz.prog G90:=GOK.also gE ok132
def F90 : List AV → Tr AV
 | [.slv (.agg [.str,.slice .str]) es,.fn 91 [.ref [.str d,.slv _ _]]]=>.gd (small es.length) (.leaf (.bool (decide (iZ (fB d es 0) ≥ 0))))
 | _=>.no
theorem ok90 : SumOK Tryz.prog 90 (ofT F90) ∧ SNat (ofT F90):=by
 refine fn0 g90 Tryz.func90 (by kernel_rfl) fun ρ avs k r h=>?_
 unfold F90 at h
 split at h
 ·rename_i es d s0 rs
  obtain ⟨hc,hk⟩:=gd_some h
  refine Eq.trans (b:=bif small es.length then k (AV.bool (decide (iZ (fB d es (0 : Nat)) ≥ (0 : Int)))) else none) (by kernel_rfl) ?_
  rw [← hk,hc]
  rfl
 ·cases h
noncomputable def GV : Env:={ pure:=[(53,ofT F53),(29,ofT F29),(39,ofT F39),(88,ofT F88),(90,ofT F90)] }
theorem gV : GOK Tryz.prog GV:=GOK.also (GOK.also (GOK.also (GOK.also (GOK.also gE ok90) ok88) ok39) ok29) ok53
def lnB (e : AV) : Bool:=bif decide (((pT e).length : Int) < 1) then true else decide (((pT e).length : Int) > 60)
def ftC (es ds : List AV) (i : Nat) : Int:=bif !adB (pS (ds.getD i .unk)) then 10 else bif lnB (ds.getD i .unk) then 2 else bif decide (iZ (fA (pT (ds.getD i .unk)) 0) ≥ 0) then 10 else bif decide (iZ (fB (pS (ds.getD i .unk)) (es.take i) 0) ≥ 0) then 7 else 0
def badA (es ds : List AV) (i : Nat) : Bool:=ftC es ds i != 0
def aOK (e : AV) : Bool:=smallS (pS e).length && (small (pT e).length && (pT e).all smT)
noncomputable def b52 : Code:=((Tryz.f52.body.map loopsOf).getD []).headD .skip
def L52 : List AV → List (Option Row) → Tr LOut
 | [.slv (.agg [.str,.slice .str]) es,.ptr 0 0,.slv (.agg [.str,.slice .str]) ds,.int .i64 n,.int .i64 i],[some (.box false [.int .i64 0,.int .i64 0])] =>
  .gd (cnt n i ds.length && (ds.all aOK && (decide (es.length = ds.length)))) (sT (badA es ds) ds.length (fun q=>.leaf (.ret,[.slv sA es,.ptr 0 0,.slv sA ds,.int .i64 ds.length,.int .i64 (q : Nat)],[some (.box false [.int .i64 (ftC es ds q),.int .i64 (q : Nat)])]))
   (.leaf (.exit 0,[.slv sA es,.ptr 0 0,.slv sA ds,.int .i64 ds.length,.int .i64 ds.length],[some (.box false [.int .i64 0,.int .i64 0])])) i.toNat)
 | _,_=>.no
def l52 : Ev.Loop:=⟨{ len:=52,slots:=[0,2,9,10,11],rows:=[0] },ofL L52⟩
theorem loop52 : LoopOK Tryz.prog GV [(4,l52)] b52 l52:=by
 refine loopT gV.natOK rfl (KOK.nil (by kernel_rfl)) μ131 (fun ρ vs rs k r h=>?_)
 unfold L52 at h
 split at h
 ·rename_i es ds n i
  obtain ⟨hc,hk⟩:=gd_some h
  simp only [Bool.and_eq_true,decide_eq_true_eq] at hc
  obtain ⟨hc,hall,hel⟩:=hc
  obtain ⟨rfl,hs,j,rfl,hj⟩:=cnt_spec hc
  rw [Int.toNat_natCast] at hk
  refine Eq.trans (b:=bif decide ((↑j : Int) < (↑ds.length : Int)) then bif inb (↑j : Int) ds.length then bif smallS (pS (ds.getD j AV.unk)).length then bif !adB (pS (ds.getD j AV.unk)) then k Ex.ret [AV.slv (Sh.agg [Sh.str,Sh.str.slice]) es,AV.ptr 0 (0 : Nat),AV.slv (Sh.agg [Sh.str,Sh.str.slice]) ds,AV.int .i64 (↑ds.length : Int),AV.int .i64 (↑j : Int)] [some (Row.box false [AV.int .i64 10,AV.int .i64 (↑j : Int)])] else bif decide ((↑(pT (ds.getD j AV.unk)).length : Int) < (1 : Int)) then k Ex.ret [AV.slv (Sh.agg [Sh.str,Sh.str.slice]) es,AV.ptr 0 (0 : Nat),AV.slv (Sh.agg [Sh.str,Sh.str.slice]) ds,AV.int .i64 (↑ds.length : Int),AV.int .i64 (↑j : Int)] [some (Row.box false [AV.int .i64 2,AV.int .i64 (↑j : Int)])] else bif decide ((↑(pT (ds.getD j AV.unk)).length : Int) > (60 : Int)) then k Ex.ret [AV.slv (Sh.agg [Sh.str,Sh.str.slice]) es,AV.ptr 0 (0 : Nat),AV.slv (Sh.agg [Sh.str,Sh.str.slice]) ds,AV.int .i64 (↑ds.length : Int),AV.int .i64 (↑j : Int)] [some (Row.box false [AV.int .i64 2,AV.int .i64 (↑j : Int)])] else bif small (pT (ds.getD j AV.unk)).length && (pT (ds.getD j AV.unk)).all smT then bif decide (iZ (fA (pT (ds.getD j AV.unk)) (0 : Nat)) ≥ (0 : Int)) then k Ex.ret [AV.slv (Sh.agg [Sh.str,Sh.str.slice]) es,AV.ptr 0 (0 : Nat),AV.slv (Sh.agg [Sh.str,Sh.str.slice]) ds,AV.int .i64 (↑ds.length : Int),AV.int .i64 (↑j : Int)] [some (Row.box false [AV.int .i64 10,AV.int .i64 (↑j : Int)])] else bif slb (0 : Int) (↑j : Int) es.length then bif small (List.take (j - Int.toNat (0 : Int)) (List.drop (0 : Nat) es)).length then bif decide (iZ (fB (pS (ds.getD j AV.unk)) (List.take (j - Int.toNat (0 : Int)) (List.drop (0 : Nat) es)) (0 : Nat)) ≥ (0 : Int)) then k Ex.ret [AV.slv (Sh.agg [Sh.str,Sh.str.slice]) es,AV.ptr 0 (0 : Nat),AV.slv (Sh.agg [Sh.str,Sh.str.slice]) ds,AV.int .i64 (↑ds.length : Int),AV.int .i64 (↑j : Int)] [some (Row.box false [AV.int .i64 7,AV.int .i64 (↑j : Int)])] else bif decide (((↑ds.length : Int) - IntKind.i64.wrap ((↑j : Int) + (1 : Int))).toNat < ((↑ds.length : Int) - (↑j : Int)).toNat) then bif cnt (↑ds.length : Int) (IntKind.i64.wrap ((↑j : Int) + (1 : Int))) ds.length && (ds.all aOK && decide (es.length = ds.length)) then bif (findN (badA es ds) ds.length (IntKind.i64.wrap ((↑j : Int) + (1 : Int))).toNat).isSome then k Ex.ret [AV.slv (Sh.agg [Sh.str,Sh.str.slice]) es,AV.ptr 0 (0 : Nat),AV.slv (Sh.agg [Sh.str,Sh.str.slice]) ds,AV.int .i64 (↑ds.length : Int),AV.int .i64 (↑((findN (badA es ds) ds.length (IntKind.i64.wrap ((↑j : Int) + (1 : Int))).toNat).getD (0 : Nat)) : Int)] [some (Row.box false [AV.int .i64 (ftC es ds ((findN (badA es ds) ds.length (IntKind.i64.wrap ((↑j : Int) + (1 : Int))).toNat).getD (0 : Nat))),AV.int .i64 (↑((findN (badA es ds) ds.length (IntKind.i64.wrap ((↑j : Int) + (1 : Int))).toNat).getD (0 : Nat)) : Int)])] else k (Ex.exit (0 : Nat)) [AV.slv (Sh.agg [Sh.str,Sh.str.slice]) es,AV.ptr 0 (0 : Nat),AV.slv (Sh.agg [Sh.str,Sh.str.slice]) ds,AV.int .i64 (↑ds.length : Int),AV.int .i64 (↑ds.length : Int)] [some (Row.box false [AV.int .i64 0,AV.int .i64 0])] else none else none else none else none else none else none else none else k (Ex.exit (0 : Nat)) [AV.slv (Sh.agg [Sh.str,Sh.str.slice]) es,AV.ptr 0 (0 : Nat),AV.slv (Sh.agg [Sh.str,Sh.str.slice]) ds,AV.int .i64 (↑ds.length : Int),AV.int .i64 (↑j : Int)] [some (Row.box false [AV.int .i64 0,AV.int .i64 0])]) (by kernel_rfl) ?_
  rw [← hk]
  by_cases hlt : j < ds.length
  ·obtain ⟨e1,e2,e3,e4,e5⟩:=cnt_facts hlt hs
   rw [sT_step _ _ _ _ _ hlt]
   have hok:=all_at hall hlt
   simp only [aOK,Bool.and_eq_true] at hok
   obtain ⟨o1,o2,o3⟩:=hok
   have o4 : slb 0 (j : Int) es.length = true:=slb_true (by omega) (by omega) (by omega)
   have o5 : small (es.take j).length = true:=decide_eq_true (by rw [List.length_take];omega)
   have o6 : List.take (j - Int.toNat 0) (List.drop 0 es) = es.take j:=rfl
   have o7 : decide (es.length = ds.length) = true:=decide_eq_true hel
   have eF : badA es ds j = (ftC es ds j != 0):=rfl
   have eG : ftC es ds j = bif !adB (pS (ds.getD j .unk)) then 10 else bif (bif decide (((pT (ds.getD j .unk)).length : Int) < 1) then true else decide (((pT (ds.getD j .unk)).length : Int) > 60)) then 2 else bif decide (iZ (fA (pT (ds.getD j .unk)) 0) ≥ 0) then 10 else bif decide (iZ (fB (pS (ds.getD j .unk)) (es.take j) 0) ≥ 0) then 7 else 0:=rfl
   simp only [e1,e2,e3,e4,e5,o1,o2,o3,o4,o6,o5,o7,hall,eF,eG,cond_true,Int.toNat_natCast,Bool.and_self]
   generalize adB (pS (ds.getD j .unk)) = a1
   generalize decide (((pT (ds.getD j .unk)).length : Int) < 1) = a2
   generalize decide (((pT (ds.getD j .unk)).length : Int) > 60) = a3
   generalize decide (iZ (fA (pT (ds.getD j .unk)) 0) ≥ 0) = a4
   generalize decide (iZ (fB (pS (ds.getD j .unk)) (es.take j) 0) ≥ 0) = a5
   cases a1 <;> cases a2 <;> cases a3 <;> cases a4 <;> cases a5 <;> rfl
  ·obtain rfl : j = ds.length:=by omega
   rw [decide_eq_false (by omega),sT_end]
   rfl
 ·cases h
def fV (es : List AV) : Option Nat:=findN (badA es es) es.length 0
def vdC (es : List AV) : Int:=bif decide ((es.length : Int) > 40) then 2 else match fV es with
 | some q=>ftC es es q
 | none=>0
def vdP (es : List AV) : Int:=bif decide ((es.length : Int) > 40) then -1 else match fV es with
 | some q=>(q : Nat)
 | none=>0
def F52 : List AV → Tr AV
 | [.slv (.agg [.str,.slice .str]) es]=>.gd (small es.length && es.all aOK) (.leaf (.agg [.int .i64 (vdC es),.int .i64 (vdP es)]))
 | _=>.no
theorem ok52 : SumOK Tryz.prog 52 (ofT F52) ∧ SNat (ofT F52):=by
 refine fn1 (K:=[(4,l52)]) (b:=b52) (l:=l52) gV Tryz.func52 (by kernel_rfl) (by kernel_rfl) loop52 fun ρ avs k r h=>?_
 unfold F52 at h
 split at h
 ·rename_i es
  obtain ⟨hc,hk⟩:=gd_some h
  simp only [Bool.and_eq_true] at hc
  refine Eq.trans (b:=bif decide ((↑es.length : Int) > (40 : Int)) then k (AV.agg [AV.int .i64 2,AV.int .i64 (-1 : Int)]) else bif cnt (↑es.length : Int) (0 : Int) es.length && (es.all aOK && decide (es.length = es.length)) then bif (findN (badA es es) es.length (0 : Nat)).isSome then k (AV.agg [AV.int .i64 (ftC es es ((findN (badA es es) es.length (0 : Nat)).getD (0 : Nat))),AV.int .i64 (↑((findN (badA es es) es.length (0 : Nat)).getD (0 : Nat)) : Int)]) else k (AV.agg [AV.int .i64 0,AV.int .i64 0]) else none) (by kernel_rfl) ?_
  rw [← hk,cnt_zero hc.1,hc.2,decide_eq_true (rfl : es.length = es.length)]
  show (bif decide ((es.length : Int) > 40) then k (.agg [.int .i64 2,.int .i64 (-1)]) else bif true then bif (fV es).isSome then k (.agg [.int .i64 (ftC es es ((fV es).getD 0)),.int .i64 (((fV es).getD 0 : Nat) : Int)]) else k (.agg [.int .i64 0,.int .i64 0]) else none) = k (.agg [.int .i64 (bif decide ((es.length : Int) > 40) then 2 else match fV es with | some q=>ftC es es q | none=>0),.int .i64 (bif decide ((es.length : Int) > 40) then -1 else match fV es with | some q=>((q : Nat) : Int) | none=>0)])
  cases decide ((es.length : Int) > 40) <;> cases fV es <;> rfl
 ·cases h
end Go.Proofs.YtijdnecnjenleaaGreatDoor


namespace Go.Proofs.YtijdnecnjenleaaGreatDoor
open Go.Ev
def putE (ms : List AV) (e : AV) : List AV:=mpPut (.str (pS e)) (.slv .str (pT e)) ms
def tabE (es : List AV) : List AV:=es.foldl putE []
theorem mpOK_set {sk sv : Sh} {v : AV} (hv : hasSh sv v = true) : ∀ (ms : List AV) (n : Nat),mpOK sk sv ms = true → mpOK sk sv (mpSet v ms n) = true
 | [],n,_=>by cases n <;> rfl
 | e :: ms,0,h=>by
  simp only [mpOK,mpSet,List.all_cons,Bool.and_eq_true] at h ⊢
  refine ⟨?_,h.2⟩
  have h1:=h.1
  unfold mpEnt at h1
  split at h1
  ·simp only [Bool.and_eq_true] at h1
   simp only [mpEnt,mpKey,Bool.and_eq_true]
   exact ⟨h1.1,hv⟩
  ·cases h1
 | e :: ms,n + 1,h=>by
  simp only [mpOK,mpSet,List.all_cons,Bool.and_eq_true] at h ⊢
  exact ⟨h.1,mpOK_set hv ms n h.2⟩
theorem mpOK_put {sk sv : Sh} {k v : AV} {ms : List AV} (hk : hasSh sk k = true) (hv : hasSh sv v = true) (h : mpOK sk sv ms = true) : mpOK sk sv (mpPut k v ms) = true:=by
 unfold mpPut
 cases mpHas k ms with
 | true=>exact mpOK_set hv ms _ h
 | false =>
  simp only [cond_false]
  simp only [mpOK,List.all_append,List.all_cons,List.all_nil,Bool.and_eq_true,Bool.and_true] at h ⊢
  refine ⟨h,?_⟩
  simp only [mpEnt,Bool.and_eq_true]
  exact ⟨hk,hv⟩
theorem putE_ok {ms : List AV} (h : mpOK .str (.slice .str) ms = true) (e : AV) : mpOK .str (.slice .str) (putE ms e) = true:=mpOK_put rfl rfl h
theorem foldl_step (f : List AV → AV → List AV) (ms es : List AV) (j : Nat) (h : j < es.length) : (es.drop j).foldl f ms = (es.drop (j + 1)).foldl f (f ms (es.getD j .unk)):=by
 rw [List.drop_eq_getElem_cons h,List.foldl_cons,List.getD,List.getElem?_eq_getElem h]
 rfl
theorem sh9 : shOf Tryz.prog depth 9 = .str:=by kernel_rfl
theorem sh54 : shOf Tryz.prog depth 54 = .slice .str:=by kernel_rfl
noncomputable def b54 : Code:=((Tryz.f54.body.map loopsOf).getD []).headD .skip
def L54 : List AV → List (Option Row) → Tr LOut
 | [.own 64,.slv (.agg [.str,.slice .str]) es,.int .i64 n,.int .i64 i],[some (.box false [.mpv ms])] =>
  .gd (cnt n i es.length && mpOK .str (.slice .str) ms) (.leaf (.exit 0,[.own 64,.slv sA es,.int .i64 n,.int .i64 es.length],[some (.box false [.mpv ((es.drop i.toNat).foldl putE ms)])]))
 | _,_=>.no
def l54 : Ev.Loop:=⟨{ len:=20,slots:=[3,7,8,9],rows:=[64] },ofL L54⟩
def μ54 (vs : List AV) (_ : List (Option Row)) : Nat:=match vs with
 | [_,_,.int _ n,.int _ i]=>(n - i).toNat
 | _=>0
theorem loop54 : LoopOK Tryz.prog G0 [(3,l54)] b54 l54:=by
 refine loopT gE.natOK rfl (KOK.nil (by kernel_rfl)) μ54 (fun ρ vs rs k r h=>?_)
 unfold L54 at h
 split at h
 ·rename_i es n i ms
  obtain ⟨hc,hk⟩:=gd_some h
  simp only [Bool.and_eq_true] at hc
  obtain ⟨hc,hm⟩:=hc
  obtain ⟨rfl,hs,j,rfl,hj⟩:=cnt_spec hc
  rw [Int.toNat_natCast] at hk
  refine Eq.trans (b:=bif decide ((↑j : Int) < (↑es.length : Int)) then bif inb (↑j : Int) es.length then bif mpOK (shOf Tryz.prog depth (9 : Nat)) (shOf Tryz.prog depth (54 : Nat)) ms then bif decide (((↑es.length : Int) - IntKind.i64.wrap ((↑j : Int) + (1 : Int))).toNat < ((↑es.length : Int) - (↑j : Int)).toNat) then bif cnt (↑es.length : Int) (IntKind.i64.wrap ((↑j : Int) + (1 : Int))) es.length && mpOK Sh.str Sh.str.slice (mpPut (AV.str (pS (es.getD j AV.unk))) (AV.slv Sh.str (pT (es.getD j AV.unk))) ms) then k (Ex.exit (0 : Nat)) [AV.own 64,AV.slv (Sh.agg [Sh.str,Sh.str.slice]) es,AV.int .i64 (↑es.length : Int),AV.int .i64 (↑es.length : Int)] [some (Row.box false [AV.mpv (List.foldl putE (mpPut (AV.str (pS (es.getD j AV.unk))) (AV.slv Sh.str (pT (es.getD j AV.unk))) ms) (List.drop (IntKind.i64.wrap ((↑j : Int) + (1 : Int))).toNat es))])] else none else none else none else none else k (Ex.exit (0 : Nat)) [AV.own 64,AV.slv (Sh.agg [Sh.str,Sh.str.slice]) es,AV.int .i64 (↑es.length : Int),AV.int .i64 (↑j : Int)] [some (Row.box false [AV.mpv ms])]) (by kernel_rfl) ?_
  rw [← hk]
  by_cases hlt : j < es.length
  ·obtain ⟨e1,e2,e3,e4,e5⟩:=cnt_facts hlt hs
   rw [foldl_step _ _ _ _ hlt]
   have e6:=putE_ok hm (es.getD j .unk)
   simp only [e1,e2,e3,e4,e5,hm,sh9,sh54,cond_true,Int.toNat_natCast]
   have e7 : mpPut (.str (pS (es.getD j .unk))) (.slv .str (pT (es.getD j .unk))) ms = putE ms (es.getD j .unk):=rfl
   simp only [e7,e6,Bool.and_self,cond_true]
   rfl
  ·obtain rfl : j = es.length:=by omega
   rw [decide_eq_false (by omega),List.drop_length]
   rfl
 ·cases h
def F54 : List AV → List Row → Tr XOut
 | [.slv (.agg [.str,.slice .str]) es],[]=>.gd (small es.length) (.leaf (.own RID,[],[.box false [.mpv (tabE es)]]))
 | _,_=>.no
theorem ok54 : XOK Tryz.prog 54 (ofX F54) ∧ XNat (ofX F54):=by
 refine ⟨xsum1 (K:=[(3,l54)]) (b:=b54) (l:=l54) (H:=[]) gE Tryz.func54 (by kernel_rfl) (by kernel_rfl) loop54 fun ρ avs rows k r h=>?_,xnat_ofX F54⟩
 have h' : (F54 avs rows).run (fun q=>k q.1 q.2.1 q.2.2) = some r:=h
 unfold F54 at h'
 split at h'
 ·rename_i es
  obtain ⟨hc,hk⟩:=gd_some h'
  refine ⟨by simp,fun rows' hs=>?_⟩
  obtain rfl : rows' = []:=by cases rows' with | nil=>rfl | cons=>exact hs.elim
  refine Eq.trans (b:=bif cnt (↑es.length : Int) (0 : Int) es.length && mpOK Sh.str Sh.str.slice [] then k (AV.own 2251799813685248) [] [Row.box false [AV.mpv (List.foldl putE [] (List.drop (0 : Nat) es))]] else none) (by kernel_rfl) ?_
  rw [← hk,cnt_zero hc]
  rfl
 ·cases h'
end Go.Proofs.YtijdnecnjenleaaGreatDoor


namespace Go.Proofs.YtijdnecnjenleaaGreatDoor
open Go.Ev
def trB (e : AV) : Bool:=match e with
 | .tup [.str _,.bool true]=>true
 | _=>false
def fndE (o : List AV × List AV) (e : AV) : List AV × List AV:=bif mpHas (.str (pS e)) o.1 then o else (o.1 ++ [.tup [.str (pS e),.bool true]],o.2 ++ [.str (pS e)])
theorem sh4 : shOf Tryz.prog depth 4 = .bool:=by kernel_rfl
theorem tr_ok : ∀ {ms : List AV},ms.all trB = true → mpOK .str .bool ms = true
 | [],_=>rfl
 | e :: ms,h=>by
  simp only [List.all_cons,Bool.and_eq_true] at h
  unfold mpOK
  rw [List.all_cons,Bool.and_eq_true]
  refine ⟨?_,tr_ok h.2⟩
  have h1:=h.1
  unfold trB at h1
  split at h1
  ·rfl
  ·cases h1
theorem tr_get {k : AV} : ∀ {ms : List AV},ms.all trB = true → mpHas k ms = true → mpGet k ms = .bool true
 | [],_,h=>by cases h
 | e :: ms,h,hh=>by
  simp only [List.all_cons,Bool.and_eq_true] at h
  rw [mpGet]
  rw [mpHas] at hh
  cases hk : keyB k (mpKey e)
  ·rw [hk,Bool.false_or] at hh
   rw [cond_false,tr_get h.2 hh]
  ·rw [cond_true]
   have h1:=h.1
   unfold trB at h1
   split at h1
   ·rfl
   ·cases h1
theorem fnd_tr (o : List AV × List AV) (e : AV) (h : o.1.all trB = true) : (fndE o e).1.all trB = true:=by
 unfold fndE
 cases mpHas (.str (pS e)) o.1
 ·rw [cond_false,List.all_append,h];rfl
 ·exact h
theorem fnd_len (o : List AV × List AV) (e : AV) : (fndE o e).2.length ≤ o.2.length + 1:=by
 unfold fndE
 cases mpHas (.str (pS e)) o.1
 ·rw [cond_false,List.length_append];exact Nat.le_refl _
 ·exact Nat.le_succ _
theorem fold_step {α : Type} (f : α → AV → α) (o : α) (es : List AV) (j : Nat) (h : j < es.length) : (es.drop j).foldl f o = (es.drop (j + 1)).foldl f (f o (es.getD j .unk)):=by
 rw [List.drop_eq_getElem_cons h,List.foldl_cons,List.getD,List.getElem?_eq_getElem h]
 rfl
theorem room9 {n : Nat} (h : n ≤ 1000001) : roomB n (Tryz.prog.bytesOf 9) = true:=by
 have h9 : Tryz.prog.bytesOf 9 = 16:=by kernel_rfl
 rw [h9]
 unfold roomB
 have h1 : n * 16 ≤ 140737488355328:=by omega
 have h2 : n ≤ 4611686018427387904:=by omega
 rw [decide_eq_true h1,decide_eq_true h2]
 rfl
def fndP (o : (List AV × List AV) × Option (List AV)) (e : AV) : (List AV × List AV) × Option (List AV):=(fndE o.1 e,bif mpHas (.str (pS e)) o.1.1 then o.2 else none)
theorem fndP_fst : ∀ (es : List AV) (o : (List AV × List AV) × Option (List AV)),(es.foldl fndP o).1 = es.foldl fndE o.1
 | [],_=>rfl
 | e :: es,o=>by rw [List.foldl_cons,List.foldl_cons,fndP_fst es];rfl
noncomputable def b93 : Code:=((Tryz.f93.body.map loopsOf).getD []).headD .skip
def L93 : List AV → List (Option Row) → Tr LOut
 | [.ptr 1125899906842624 0,.ptr 1125899906842626 0,.slv .str es,.int .i64 n,.int .i64 i],[some (.box false [.own 1125899906842625]),some (.box false [.mpv ms]),some (.box false [.own 900]),some (.arr false .str 9 q sp)] =>
  .gd (cnt n i es.length && (ms.all trB && decide (q.length + (es.length - i.toNat) ≤ 1000000))) (.leaf (.exit 0,[.ptr 1125899906842624 0,.ptr 1125899906842626 0,.slv .str es,.int .i64 n,.int .i64 es.length],[some (.box false [.own 1125899906842625]),some (.box false [.mpv ((es.drop i.toNat).foldl fndP ((ms,q),sp)).1.1]),some (.box false [.own 900]),some (.arr false .str 9 ((es.drop i.toNat).foldl fndP ((ms,q),sp)).1.2 ((es.drop i.toNat).foldl fndP ((ms,q),sp)).2)]))
 | [.ptr 1125899906842624 0,.ptr 1125899906842626 0,.slz .str,.int .i64 n,.int .i64 i],[some (.box false [.own 1125899906842625]),some (.box false [.mpv ms]),some (.box false [.own 900]),some (.arr false .str 9 q sp)] =>
  .gd (n == 0 && i == 0) (.leaf (.exit 0,[.ptr 1125899906842624 0,.ptr 1125899906842626 0,.slz .str,.int .i64 n,.int .i64 i],[some (.box false [.own 1125899906842625]),some (.box false [.mpv ms]),some (.box false [.own 900]),some (.arr false .str 9 q sp)]))
 | _,_=>.no
def l93 : Ev.Loop:=⟨{ len:=23,slots:=[1,2,6,7,8],rows:=[1125899906842624,1125899906842625,1125899906842626,900],cells:=[(1125899906842626,0,900,9)] },ofL L93⟩
def μ93 (vs : List AV) (_ : List (Option Row)) : Nat:=match vs with
 | [_,_,_,.int _ n,.int _ i]=>(n - i).toNat
 | _=>0
theorem loop93 : LoopOK Tryz.prog G0 [(1,l93)] b93 l93:=by
 refine loopT gE.natOK rfl (KOK.nil (by kernel_rfl)) μ93 (fun ρ vs rs k r h=>?_)
 unfold L93 at h
 split at h
 ·rename_i es n i ms q sp
  obtain ⟨hc,hk⟩:=gd_some h
  simp only [Bool.and_eq_true] at hc
  obtain ⟨hc,hm,hq⟩:=hc
  obtain ⟨rfl,hs,j,rfl,hj⟩:=cnt_spec hc
  rw [Int.toNat_natCast] at hk hq
  have hq':=of_decide_eq_true hq
  refine Eq.trans (b:=bif decide ((↑j : Int) < (↑es.length : Int)) then bif inb (↑j : Int) es.length then bif mpOK (shOf Tryz.prog depth (9 : Nat)) (shOf Tryz.prog depth (4 : Nat)) ms then bif mpHas (AV.str (pS (es.getD j AV.unk))) ms then bif !((mpGet (AV.str (pS (es.getD j AV.unk))) ms).cells.headD AV.unk).toBool then bif mpOK (shOf Tryz.prog depth (9 : Nat)) (shOf Tryz.prog depth (4 : Nat)) ms then bif roomB (q.length + [AV.str (pS (es.getD j AV.unk))].length) (Tryz.prog.bytesOf 9) then bif decide (((↑es.length : Int) - IntKind.i64.wrap ((↑j : Int) + (1 : Int))).toNat < ((↑es.length : Int) - (↑j : Int)).toNat) then bif cnt (↑es.length : Int) (IntKind.i64.wrap ((↑j : Int) + (1 : Int))) es.length && ((mpPut (AV.str (pS (es.getD j AV.unk))) (AV.bool true) ms).all trB && decide ((q ++ [AV.str (pS (es.getD j AV.unk))]).length + (es.length - (IntKind.i64.wrap ((↑j : Int) + (1 : Int))).toNat) ≤ (1000000 : Nat))) then k (Ex.exit (0 : Nat)) [AV.ptr 1125899906842624 (0 : Nat),AV.ptr 1125899906842626 (0 : Nat),AV.slv Sh.str es,AV.int .i64 (↑es.length : Int),AV.int .i64 (↑es.length : Int)] [some (Row.box false [AV.own 1125899906842625]),some (Row.box false [AV.mpv (List.foldl fndP ((mpPut (AV.str (pS (es.getD j AV.unk))) (AV.bool true) ms,q ++ [AV.str (pS (es.getD j AV.unk))]),none) (List.drop (IntKind.i64.wrap ((↑j : Int) + (1 : Int))).toNat es)).fst.fst]),some (Row.box false [AV.own 900]),some (Row.arr false Sh.str 9 (List.foldl fndP ((mpPut (AV.str (pS (es.getD j AV.unk))) (AV.bool true) ms,q ++ [AV.str (pS (es.getD j AV.unk))]),none) (List.drop (IntKind.i64.wrap ((↑j : Int) + (1 : Int))).toNat es)).fst.snd (List.foldl fndP ((mpPut (AV.str (pS (es.getD j AV.unk))) (AV.bool true) ms,q ++ [AV.str (pS (es.getD j AV.unk))]),none) (List.drop (IntKind.i64.wrap ((↑j : Int) + (1 : Int))).toNat es)).snd)] else none else none else none else none else bif decide (((↑es.length : Int) - IntKind.i64.wrap ((↑j : Int) + (1 : Int))).toNat < ((↑es.length : Int) - (↑j : Int)).toNat) then bif cnt (↑es.length : Int) (IntKind.i64.wrap ((↑j : Int) + (1 : Int))) es.length && (ms.all trB && decide (q.length + (es.length - (IntKind.i64.wrap ((↑j : Int) + (1 : Int))).toNat) ≤ (1000000 : Nat))) then k (Ex.exit (0 : Nat)) [AV.ptr 1125899906842624 (0 : Nat),AV.ptr 1125899906842626 (0 : Nat),AV.slv Sh.str es,AV.int .i64 (↑es.length : Int),AV.int .i64 (↑es.length : Int)] [some (Row.box false [AV.own 1125899906842625]),some (Row.box false [AV.mpv (List.foldl fndP ((ms,q),sp) (List.drop (IntKind.i64.wrap ((↑j : Int) + (1 : Int))).toNat es)).fst.fst]),some (Row.box false [AV.own 900]),some (Row.arr false Sh.str 9 (List.foldl fndP ((ms,q),sp) (List.drop (IntKind.i64.wrap ((↑j : Int) + (1 : Int))).toNat es)).fst.snd (List.foldl fndP ((ms,q),sp) (List.drop (IntKind.i64.wrap ((↑j : Int) + (1 : Int))).toNat es)).snd)] else none else none else bif mpOK (shOf Tryz.prog depth (9 : Nat)) (shOf Tryz.prog depth (4 : Nat)) ms then bif roomB (q.length + [AV.str (pS (es.getD j AV.unk))].length) (Tryz.prog.bytesOf 9) then bif decide (((↑es.length : Int) - IntKind.i64.wrap ((↑j : Int) + (1 : Int))).toNat < ((↑es.length : Int) - (↑j : Int)).toNat) then bif cnt (↑es.length : Int) (IntKind.i64.wrap ((↑j : Int) + (1 : Int))) es.length && ((mpPut (AV.str (pS (es.getD j AV.unk))) (AV.bool true) ms).all trB && decide ((q ++ [AV.str (pS (es.getD j AV.unk))]).length + (es.length - (IntKind.i64.wrap ((↑j : Int) + (1 : Int))).toNat) ≤ (1000000 : Nat))) then k (Ex.exit (0 : Nat)) [AV.ptr 1125899906842624 (0 : Nat),AV.ptr 1125899906842626 (0 : Nat),AV.slv Sh.str es,AV.int .i64 (↑es.length : Int),AV.int .i64 (↑es.length : Int)] [some (Row.box false [AV.own 1125899906842625]),some (Row.box false [AV.mpv (List.foldl fndP ((mpPut (AV.str (pS (es.getD j AV.unk))) (AV.bool true) ms,q ++ [AV.str (pS (es.getD j AV.unk))]),none) (List.drop (IntKind.i64.wrap ((↑j : Int) + (1 : Int))).toNat es)).fst.fst]),some (Row.box false [AV.own 900]),some (Row.arr false Sh.str 9 (List.foldl fndP ((mpPut (AV.str (pS (es.getD j AV.unk))) (AV.bool true) ms,q ++ [AV.str (pS (es.getD j AV.unk))]),none) (List.drop (IntKind.i64.wrap ((↑j : Int) + (1 : Int))).toNat es)).fst.snd (List.foldl fndP ((mpPut (AV.str (pS (es.getD j AV.unk))) (AV.bool true) ms,q ++ [AV.str (pS (es.getD j AV.unk))]),none) (List.drop (IntKind.i64.wrap ((↑j : Int) + (1 : Int))).toNat es)).snd)] else none else none else none else none else none else none else k (Ex.exit (0 : Nat)) [AV.ptr 1125899906842624 (0 : Nat),AV.ptr 1125899906842626 (0 : Nat),AV.slv Sh.str es,AV.int .i64 (↑es.length : Int),AV.int .i64 (↑j : Int)] [some (Row.box false [AV.own 1125899906842625]),some (Row.box false [AV.mpv ms]),some (Row.box false [AV.own 900]),some (Row.arr false Sh.str 9 q sp)]) (by kernel_rfl) ?_
  rw [← hk]
  by_cases hlt : j < es.length
  ·obtain ⟨e1,e2,e3,e4,e5⟩:=cnt_facts hlt hs
   rw [fold_step _ _ _ _ hlt]
   have e6:=tr_ok hm
   have e7 : ([AV.str (pS (es.getD j .unk))] : List AV).length = 1:=rfl
   have e8:=room9 (n:=q.length + 1) (by omega)
   have e9:=fnd_tr (ms,q) (es.getD j .unk) hm
   have e10:=fnd_len (ms,q) (es.getD j .unk)
   have e11 : decide ((fndE (ms,q) (es.getD j .unk)).2.length + (es.length - (j + 1)) ≤ 1000000) = true:=decide_eq_true (by simp only [] at e10;omega)
   simp only [e1,e2,e3,e4,e5,e6,e7,e8,sh9,sh4,cond_true,Int.toNat_natCast]
   cases hh : mpHas (.str (pS (es.getD j .unk))) ms
   ·have e12 : fndE (ms,q) (es.getD j .unk) = (ms ++ [.tup [.str (pS (es.getD j .unk)),.bool true]],q ++ [.str (pS (es.getD j .unk))]):=by
     unfold fndE;simp only [hh,cond_false]
    have e15 : fndP ((ms,q),sp) (es.getD j .unk) = (fndE (ms,q) (es.getD j .unk),none):=by
     unfold fndP;simp only [hh,cond_false]
    rw [e15]
    have e13 : mpPut (.str (pS (es.getD j .unk))) (.bool true) ms = ms ++ [.tup [.str (pS (es.getD j .unk)),.bool true]]:=by
     unfold mpPut;rw [hh,cond_false]
    rw [e12] at e9 e11 ⊢
    simp only [] at e9 e11 ⊢
    simp only [e13,e9,e11,cond_false,cond_true,Bool.and_self]
    rfl
   ·have e12 : fndE (ms,q) (es.getD j .unk) = (ms,q):=by
     unfold fndE;simp only [hh,cond_true]
    have e15 : fndP ((ms,q),sp) (es.getD j .unk) = (fndE (ms,q) (es.getD j .unk),sp):=by
     unfold fndP;simp only [hh,cond_true]
    rw [e15]
    rw [e12] at e9 e11 ⊢
    simp only [] at e9 e11 ⊢
    have e14 : (!((mpGet (.str (pS (es.getD j .unk))) ms).cells.headD .unk).toBool) = false:=by
     rw [tr_get hm hh];rfl
    simp only [e14,e9,e11,cond_false,cond_true,Bool.and_self]
    rfl
  ·obtain rfl : j = es.length:=by omega
   rw [decide_eq_false (by omega),List.drop_length]
   rfl
 ·rename_i n i ms q sp
  obtain ⟨hc,hk⟩:=gd_some h
  simp only [Bool.and_eq_true] at hc
  obtain rfl:=eq_of_beq hc.1
  obtain rfl:=eq_of_beq hc.2
  refine Eq.trans (b:=k (Ex.exit (0 : Nat)) [AV.ptr 1125899906842624 (0 : Nat),AV.ptr 1125899906842626 (0 : Nat),AV.slz Sh.str,AV.int .i64 0,AV.int .i64 0] [some (Row.box false [AV.own 1125899906842625]),some (Row.box false [AV.mpv ms]),some (Row.box false [AV.own 900]),some (Row.arr false Sh.str 9 q sp)]) (by kernel_rfl) ?_
  exact hk
 ·cases h
def F93 : List AV → List Row → Tr XOut
 | [.slv .str es,.ptr 1125899906842624 0,.ptr 1125899906842626 0],[.box false [.own 1125899906842625],.box false [.mpv ms],.box false [.slz .str]] =>
  .gd (decide (es.length ≤ 1000000) && ms.all trB) (.leaf (.tup [],[some (.box false [.own 1125899906842625]),some (.box false [.mpv (es.foldl fndE (ms,[])).1]),some (.box false [.own RID])],[.arr false .str 9 (es.foldl fndE (ms,[])).2 none]))
 | [.slv .str es,.ptr 1125899906842624 0,.ptr 1125899906842626 0],[.box false [.own 1125899906842625],.box false [.mpv ms],.box false [.own 1125899906842627],.arr false .str e9 q none] =>
  .gd (decide (e9 = 9 ∧ q.length + es.length ≤ 1000000) && ms.all trB) (.leaf (.tup [],[some (.box false [.own 1125899906842625]),some (.box false [.mpv (es.foldl fndE (ms,q)).1]),some (.box false [.own RID]),none],[.arr false .str 9 (es.foldl fndE (ms,q)).2 none]))
 | [.slz .str,.ptr 1125899906842624 0,.ptr 1125899906842626 0],[.box false [.own 1125899906842625],.box false [.mpv ms],.box false [.own 1125899906842627],.arr false .str e9 q none] =>
  .gd (decide (e9 = 9)) (.leaf (.tup [],[some (.box false [.own 1125899906842625]),some (.box false [.mpv ms]),some (.box false [.own RID]),none],[.arr false .str 9 q none]))
 | _,_=>.no
theorem ok93 : XOK Tryz.prog 93 (ofX F93) ∧ XNat (ofX F93):=by
 refine ⟨xsum1 (K:=[(1,l93)]) (b:=b93) (l:=l93) (H:=[]) gE Tryz.func93 (by kernel_rfl) (by kernel_rfl) loop93 fun ρ avs rows k r h=>?_,xnat_ofX F93⟩
 have h' : (F93 avs rows).run (fun q=>k q.1 q.2.1 q.2.2) = some r:=h
 unfold F93 at h'
 split at h'
 ·rename_i es ms
  obtain ⟨hc,hk⟩:=gd_some h'
  simp only [Bool.and_eq_true] at hc
  obtain ⟨hc,hm⟩:=hc
  have hlen : es.length ≤ 1000000:=of_decide_eq_true hc
  refine ⟨by simp,fun rows' hsp=>?_⟩
  obtain rfl : rows' = [.box false [.own 1125899906842625],.box false [.mpv ms],.box false [.slz .str]]:=by
   match rows',hsp with
   | [r1,r2,r3],⟨h1,h2,h3,_⟩=>rw [h1,h2,h3]
  refine Eq.trans (b:=bif cnt (↑es.length : Int) (0 : Int) es.length && (ms.all trB && decide (([] : List AV).length + (es.length - Int.toNat (0 : Int)) ≤ (1000000 : Nat))) then k (AV.tup []) [some (Row.box false [AV.own 1125899906842625]),some (Row.box false [AV.mpv (List.foldl fndP ((ms,[]),none) (List.drop (0 : Nat) es)).fst.fst]),some (Row.box false [AV.own 2251799813685248])] [Row.arr false Sh.str 9 (List.foldl fndP ((ms,[]),none) (List.drop (0 : Nat) es)).fst.snd none] else none) (by kernel_rfl) ?_
  rw [← hk,cnt_zero (decide_eq_true (by omega)),hm]
  have h0 : decide (([] : List AV).length + (es.length - Int.toNat 0) ≤ 1000000) = true:=decide_eq_true (by show 0 + (es.length - 0) ≤ _;omega)
  rw [h0]
  refine Eq.trans (cond_t rfl) ?_
  rw [fndP_fst]
  rfl
 ·rename_i es ms e9 q
  obtain ⟨hc,hk⟩:=gd_some h'
  simp only [Bool.and_eq_true] at hc
  obtain ⟨hc,hm⟩:=hc
  obtain ⟨rfl,hlen⟩:=of_decide_eq_true hc
  refine ⟨by simp,fun rows' hsp=>?_⟩
  obtain ⟨sp,hr,hsp1⟩ : ∃ sp,rows' = [.box false [.own 1125899906842625],.box false [.mpv ms],.box false [.own 1125899906842627],.arr false .str 9 q (some sp)] ∧ ∀ x ∈ q ++ sp,hasSh .str x = true:=by
   match rows',hsp with
   | [r1,r2,r3,r4],⟨h1,h2,h3,⟨sp,h4,h5,_⟩,_⟩=>exact ⟨sp,by rw [h1,h2,h3,h4],h5⟩
  subst hr
  refine Eq.trans (b:=bif cnt (↑es.length : Int) (0 : Int) es.length && (ms.all trB && decide (q.length + (es.length - Int.toNat (0 : Int)) ≤ (1000000 : Nat))) then k (AV.tup []) [some (Row.box false [AV.own 1125899906842625]),some (Row.box false [AV.mpv (List.foldl fndP ((ms,q),some sp) (List.drop (0 : Nat) es)).fst.fst]),some (Row.box false [AV.own 2251799813685248]),none] [Row.arr false Sh.str 9 (List.foldl fndP ((ms,q),some sp) (List.drop (0 : Nat) es)).fst.snd none] else none) (by kernel_rfl) ?_
  rw [← hk,cnt_zero (decide_eq_true (by omega)),hm]
  have h0 : decide (q.length + (es.length - Int.toNat 0) ≤ 1000000) = true:=decide_eq_true (by show q.length + (es.length - 0) ≤ _;omega)
  rw [h0]
  refine Eq.trans (cond_t rfl) ?_
  rw [fndP_fst]
  rfl
 ·rename_i ms e9 q
  obtain ⟨hc,hk⟩:=gd_some h'
  obtain rfl:=of_decide_eq_true hc
  refine ⟨by simp,fun rows' hsp=>?_⟩
  obtain ⟨sp,hr,hsp1⟩ : ∃ sp,rows' = [.box false [.own 1125899906842625],.box false [.mpv ms],.box false [.own 1125899906842627],.arr false .str 9 q (some sp)] ∧ ∀ x ∈ q ++ sp,hasSh .str x = true:=by
   match rows',hsp with
   | [r1,r2,r3,r4],⟨h1,h2,h3,⟨sp,h4,h5,_⟩,_⟩=>exact ⟨sp,by rw [h1,h2,h3,h4],h5⟩
  subst hr
  refine Eq.trans (b:=k (AV.tup []) [some (Row.box false [AV.own 1125899906842625]),some (Row.box false [AV.mpv ms]),some (Row.box false [AV.own 2251799813685248]),none] [Row.arr false Sh.str 9 q none]) (by kernel_rfl) ?_
  exact hk
 ·cases h'
end Go.Proofs.YtijdnecnjenleaaGreatDoor


namespace Go.Ev
open Go.RowKit
def fnE : Func:={ (default : Func) with results:=#[] }
noncomputable def evY (P : Program) (Γ : Env) (K : List (Nat × Loop)) (key : Int) (q : Array Tmp × Code × Code) : SummX:=fun ρ avs rows k =>
 match avs,rows with
 | .own p :: xs,.box false (.tup [.int .i64 key'] :: tm) :: rest =>
  if p == PID && (key' == key && Nat.ble rest.length 999999) then
   (St.mk ((q.1.toList.zip xs).foldl (fun t p=>t.set p.1 p.2) tm) (zipIds (PID + 1) rest) (List.range' PID (rest.length + 1))).force fun st =>
    evC P Γ K q.2.1 ρ st fun e st1=>match e with
     | .normal=>evC P Γ K q.2.2 ρ st1 fun e st2=>match e with
      | .normal=>finishX P fnE (rest.length + 1) st2 fun _ prow nrow=>k (.bool true) (some (.box false (.tup [.int .i64 key] :: tm)) :: prow.tail) nrow
      | .ret=>finishX P fnE (rest.length + 1) st2 fun _ prow nrow=>k (.bool false) (some (.box false (.tup [.int .i64 key,.bool true] :: tm)) :: prow.tail) nrow
      | _=>none
     | _=>none
  else none
 | _,_=>none
theorem sets_rel {w : World} {S : Nat → Prop} {β : Bet} : ∀ (ps : List Nat) {xs tm : List AV} {args us : List Value},VRels w S β xs args → VRels w S β tm us → VRels w S β ((ps.zip xs).foldl (fun t p=>t.set p.1 p.2) tm) ((ps.zip args).foldl (fun t p=>t.set p.1 p.2) us)
 | [],_,_,_,_,_,h=>h
 | p :: ps,[],_,args,_,hx,h=>by
  rw [hx.inv_nil]
  exact h
 | p :: ps,x :: xs,tm,args,us,hx,h=>by
  obtain ⟨v,vs,rfl,hv,hvs⟩:=hx.inv
  exact sets_rel ps hvs (h.set p hv)
theorem foldl_sets : ∀ (l : List (Nat × Value)) (t : Array Value),(l.foldl (fun t p=>t.setIfInBounds p.1 p.2) t).toList = l.foldl (fun t p=>t.set p.1 p.2) t.toList
 | [],_=>rfl
 | p :: l,t=>by
  rw [List.foldl_cons,List.foldl_cons,foldl_sets l]
  simp
section
variable {P : Program} {Γ : Env} {K : List (Nat × Loop)}
theorem lookup_zip1 {rows : List Row} {x : Row} {id : Nat} {r : Row} (h : lookup (zipIds (PID + 1) rows) id = some r) : id ≠ PID ∧ lookup (zipIds PID (x :: rows)) id = some r:=by
 obtain ⟨hle,_⟩:=lookup_zipIds _ _ _ _ h
 have hne : id ≠ PID:=by omega
 refine ⟨hne,?_⟩
 show lookup ((PID,x) :: zipIds (PID + 1) rows) id = some r
 simp only [lookup]
 rw [if_neg (fun e=>hne e.symm)]
 exact h
theorem yok_core (hΓ : GOK P Γ) (hD : DrawOK P Γ) (hr : Γ.rng = []) {key : Int} {q : Array Tmp × Code × Code} (hq : q = loopCode key) (hKa : KOK P Γ K q.2.1) (hKb : KOK P Γ K q.2.2)
  {ρ : Type} {w : World} {S B : Nat → Prop} {β : Bet} {og : Nat → Option Nat} {avs tm : List AV} {rows : List Row} {args : List Value} {k : AV → List (Option Row) → List Row → Option ρ} {r : ρ} {l : Nat} {r0 : Go.Loop} {us : List Value}
  (hH : Heap w S B β og (zipIds PID (.box false (.tup [.int .i64 key] :: tm) :: rows))) (hSB : (∀ b,S b → B b) ∧ Glb B w) (hdom : ∀ id x,β id = some x → PID ≤ id ∧ id < PID + (rows.length + 1)) (hv : VRels w S β avs args)
  (hbl : β PID = some (.func (.yield l) #[] #[],1)) (hol : og PID = some l) (hhl : w.heap[l]? = some (.loop r0)) (hst : r0.state = .ready) (_hpd : r0.pending = none) (hlc : (r0.params,r0.assign,r0.body) = loopCode key) (htm : r0.tmps.toList = us) (htv : VRels w S β tm us) (hsm : rows.length ≤ 999999)
  (he : (evC P Γ K q.2.1 ρ (St.mk ((q.1.toList.zip avs).foldl (fun t p=>t.set p.1 p.2) tm) (zipIds (PID + 1) rows) (List.range' PID (rows.length + 1))) fun e st1=>match e with
     | .normal=>evC P Γ K q.2.2 ρ st1 fun e st2=>match e with
      | .normal=>finishX P fnE (rows.length + 1) st2 fun _ prow nrow=>k (.bool true) (some (.box false (.tup [.int .i64 key] :: tm)) :: prow.tail) nrow
      | .ret=>finishX P fnE (rows.length + 1) st2 fun _ prow nrow=>k (.bool false) (some (.box false (.tup [.int .i64 key,.bool true] :: tm)) :: prow.tail) nrow
      | _=>none
     | _=>none) = some r) :
  RoundIn Fence.wide 0 P l r0.fn ((r0.params.zip args.toArray).foldl (fun t (p,v)=>t.setIfInBounds p v) r0.tmps) r0.assign r0.body w fun e w'=>∃ u v prow nrow S' β' og',e = .returned u ∧ k v prow nrow = some r ∧ After w S B β prow nrow v u w' S' β' og':=by
 obtain ⟨hSB,hG⟩:=hSB
 have hqq : q = (r0.params,r0.assign,r0.body):=hq.trans hlc.symm
 subst hqq
 have hlw : l < w.heap.size:=hH.lt PID l hol
 have hrow0:=hH.row PID (.box false (.tup [.int .i64 key] :: tm)) (by simp [zipIds,lookup])
 have hSl : ¬ S l:=hrow0.free rfl l hol
 have hBl : ¬ B l:=hrow0.place.2 l hol
 have hPR : PID < RID:=by decide
 obtain ⟨B2,hB2⟩ : ∃ B2 : Ctx,B2 = ⟨fun b=>B b ∨ b = l,β,[]⟩:=⟨_,rfl⟩
 have hB2l : B2 l:=by rw [hB2];exact .inr rfl
 have hB2B : ∀ b,B b → B2 b:=fun b hb=>by rw [hB2];exact .inl hb
 have hzip : ((r0.params.zip args.toArray).foldl (fun t (p,v)=>t.setIfInBounds p v) r0.tmps).toList = (r0.params.toList.zip args).foldl (fun t p=>t.set p.1 p.2) us:=by
  rw [← htm,← foldl_sets,← Array.foldl_toList]
  simp
 have hRel : Rel w S B2 β (fun id=>if id = PID then none else og id) (St.mk ((r0.params.toList.zip avs).foldl (fun t p=>t.set p.1 p.2) tm) (zipIds (PID + 1) rows) (List.range' PID (rows.length + 1))) { tmps:=(r0.params.zip args.toArray).foldl (fun t (p,v)=>t.setIfInBounds p v) r0.tmps,defers:=[] }:=by
  refine ⟨?_,by rw [hB2],fun id x hx=>?_,fun id id' g hg hg'=>?_,fun id g hg=>?_,fun id x hx=>?_,hH.one,hH.Slt,fun b hb=>?_,fun id x _ hx=>by rw [hB2];exact hx⟩
  ·show VRels w S β _ ((r0.params.zip args.toArray).foldl (fun t (p,v)=>t.setIfInBounds p v) r0.tmps).toList
   rw [hzip]
   exact sets_rel _ hv htv
  ·obtain ⟨hne,hx⟩:=lookup_zip1 (x:=.box false (.tup [.int .i64 key] :: tm)) hx
   rw [if_neg hne]
   refine (hH.row id x hx).monoB fun g hg hn hb=>?_
   rw [hB2] at hb
   rcases hb with hb | hb
   ·exact hn hb
   ·subst hb;exact hne (hH.inj id PID _ hg hol)
  ·by_cases e : id = PID
   ·rw [if_pos e] at hg;cases hg
   ·by_cases e' : id' = PID
    ·rw [if_pos e'] at hg';cases hg'
    ·rw [if_neg e] at hg;rw [if_neg e'] at hg';exact hH.inj id id' g hg hg'
  ·by_cases e : id = PID
   ·rw [if_pos e] at hg;cases hg
   ·rw [if_neg e] at hg;exact hH.lt id g hg
  ·obtain ⟨h1,h2⟩:=hdom id x hx
   show id ∈ List.range' PID (rows.length + 1)
   rw [List.mem_range'_1]
   exact ⟨h1,h2⟩
  ·rw [hB2] at hb
   rcases hb with hb | hb
   ·exact hH.Ble b hb
   ·omega
 have hG2 : Glb B2 w:=hG.mono hB2B
 have hX : RelX w S B2 (St.mk ((r0.params.toList.zip avs).foldl (fun t p=>t.set p.1 p.2) tm) (zipIds (PID + 1) rows) (List.range' PID (rows.length + 1))) { tmps:=(r0.params.zip args.toArray).foldl (fun t (p,v)=>t.setIfInBounds p v) r0.tmps,defers:=[] } w :=
  ⟨S,β,_,hRel,⟨KeptG.refl hG2,fun _ h=>.inl h,fun _ h=>h⟩⟩
 refine roundIn_of_wpIn (F:=Fence.wide) (n:=0) trivial ?_
 refine evC_sound (R:=some l) hΓ hD r0.assign hKa (RngOK.no hr _) ρ _ _ r _ w _ he hX.e fun e st1 a1 w1 he1 hx1=>?_
 cases e with
 | ret=>cases he1
 | exit i=>cases he1
 | normal =>
 obtain ⟨wa,Sa,Ba,hEa,S1,β1,og1,hR1,hO1⟩:=hx1
 have hBal : Ba l:=hEa.up l hB2l
 have hw1l : w1.heap[l]? = some (.loop r0):=(hO1.bel.block l hBal).trans ((hEa.kept.block l hB2l).trans hhl)
 have hS1l : ¬ S1 l:=fun hs=>(hO1.sin l hs).elim (fun h=>(hEa.sin l h).elim hSl fun h=>h hB2l) fun h=>h hBal
 have hk1 : Kept B w w1:=Kept.trans (b:=wa) ⟨hEa.kept.os,hEa.kept.tape,hEa.kept.output,hEa.kept.size,fun b hb=>hEa.kept.block b (hB2B b hb)⟩ ⟨hO1.bel.os,hO1.bel.tape,hO1.bel.output,hO1.bel.size,fun b hb=>hO1.bel.block b (hEa.up b (hB2B b hb))⟩
 have hk2 : Kept B w (w1.putObj l (.loop { r0 with state:=.busy })):=hk1.putBlock _ hBl
 have hR2 : Rel (w1.putObj l (.loop { r0 with state:=.busy })) S1 Ba β1 og1 st1 a1:=hR1.putBlock _ (fun id x hx hg=>(hR1.row id x hx).place.2 l hg hBal) hS1l
 have hGa : Glb Ba (w1.putObj l (.loop { r0 with state:=.busy })):=fun w' hk=>hG w' (hk2.trans ⟨hk.os,hk.tape,hk.output,hk.size,fun b hb=>hk.block b (hEa.up b (hB2B b hb))⟩)
 have hX2 : RelX (w1.putObj l (.loop { r0 with state:=.busy })) S1 Ba st1 a1 (w1.putObj l (.loop { r0 with state:=.busy })):=⟨S1,β1,og1,hR2,⟨KeptG.refl hGa,fun _ h=>.inl h,fun _ h=>h⟩⟩
 refine ⟨_,run_beginRound hw1l hst,?_⟩
 obtain ⟨w2,hw2⟩ : ∃ w2,w2 = w1.putObj l (.loop { r0 with state:=.busy }):=⟨_,rfl⟩
 rw [← hw2] at hk2 hR2 hGa hX2 ⊢
 refine evC_sound (R:=some l) hΓ hD r0.body hKb (RngOK.no hr _) ρ _ _ r _ w2 _ he1 hX2.e fun e st2 a2 w3 he2 hx2=>?_
 suffices core : ∀ (d : Bool),(finishX P fnE (rows.length + 1) st2 fun _ prow nrow=>k (.bool !d) (some (.box false (.tup (recA key d) :: tm)) :: prow.tail) nrow) = some r →
   ∃ v w',(Instr.endRound l (bif d then some .ret else none)).run P w3 = .ok v w' ∧ (∃ u v1 prow nrow S' β' og',(Ending.returned v) = .returned u ∧ k v1 prow nrow = some r ∧ After w S B β prow nrow v1 u w' S' β' og') by
  cases e with
  | exit i=>cases he2
  | normal=>exact core false he2
  | ret=>exact core true he2
 clear he2
 intro d he2
 obtain ⟨wb,Sb,Bb,hEb,S3,β3,og3,hR3,hO3⟩:=hx2
 have hBbl : Bb l:=hEb.up l hBal
 have hl1 : l < w1.heap.size:=(Array.getElem?_eq_some_iff.1 hw1l).1
 have hw2l : w2.heap[l]? = some (.loop { r0 with state:=.busy }):=by rw [hw2];exact World.putObj_heap_same hl1
 have hw3l : w3.heap[l]? = some (.loop { r0 with state:=.busy }):=(hO3.bel.block l hBbl).trans ((hEb.kept.block l hBal).trans hw2l)
 have hl3 : l < w3.heap.size:=(Array.getElem?_eq_some_iff.1 hw3l).1
 have hbet : Bb.bet = β:=by rw [hEb.bet,hEa.bet,hB2]
 have hdomR : ∀ id x,Bb.bet id = some x → id < RID:=fun id x hx=>by
  rw [hbet] at hx
  have:=(hdom id x hx).2
  have : PID + 1000000 < RID:=by decide
  omega
 obtain ⟨u,hrun2,v,prow,nrow,S',β',og',hk',hA⟩:=finishX_sound (w:=w3) (np:=rows.length + 1) ⟨S3,β3,og3,hR3,hO3⟩ hdomR he2
 refine ⟨_,_,run_endRound (bif d then some .ret else none) hw3l,.bool !d,.bool !d,_,_,S',fun id=>if id < RID then β id else β' id,fun id=>@ite _ (id = PID) _ (some l) (@ite _ ((∃ j x,id = PID + j ∧ prow[j]? = some (some x)) ∨ ∃ j x,id = RID + j ∧ nrow[j]? = some x) (Classical.propDecidable _) (og' id) none),(by cases d <;> rfl),hk',?_⟩
 obtain ⟨w4,hw4⟩ : ∃ w4,w4 = w3.putObj l (.loop { ({ r0 with state:=.busy } : Go.Loop) with state:=(bif d then .done else .ready),pending:=(bif d then some .ret else none) }):=⟨_,rfl⟩
 have hw4l : w4.heap[l]? = some (.loop { ({ r0 with state:=.busy } : Go.Loop) with state:=(bif d then .done else .ready),pending:=(bif d then some .ret else none) }):=by rw [hw4];exact World.putObj_heap_same hl3
 have hoth : ∀ b,b ≠ l → w4.heap[b]? = w3.heap[b]?:=fun b hb=>by rw [hw4];exact World.putObj_heap_other hb
 have hsz4 : w4.heap.size = w3.heap.size:=by rw [hw4];exact World.putObj_size
 have hup : ∀ b,B b → Bb b:=fun b hb=>hEb.up b (hEa.up b (hB2B b hb))
 have hk3 : Kept B w w3:=hk2.trans (Kept.trans (b:=wb) ⟨hEb.kept.os,hEb.kept.tape,hEb.kept.output,hEb.kept.size,fun b hb=>hEb.kept.block b (hEa.up b (hB2B b hb))⟩ ⟨hA.kept.os,hA.kept.tape,hA.kept.output,hA.kept.size,fun b hb=>hA.kept.block b (hup b hb)⟩)
 have hk4 : Kept B w w4:=by rw [hw4];exact hk3.putBlock _ hBl
 have hsubA : ∀ b,S b → S' b:=fun b hb=>hA.sub b (hEb.sub b (hO1.sub b (hEa.sub b hb)))
 have hsinA : ∀ b,S' b → S b ∨ ¬ B2 b:=fun b hb=>(hA.sin b hb).elim (fun h=>(hEb.sin b h).elim (fun h=>(hO1.sin b h).elim (hEa.sin b) fun h=>.inr fun h'=>h (hEa.up b h')) fun h=>.inr fun h'=>h (hEa.up b h')) fun h=>.inr fun h'=>h (hEb.up b (hEa.up b h'))
 have hS'l : ¬ S' l:=fun hs=>(hsinA l hs).elim hSl fun h=>h hB2l
 have hβ1 : ∀ id x,β' id = some x → (if id < RID then β id else β' id) = some x:=fun id x hx=>by
  by_cases hlt : id < RID
  ·rw [if_pos hlt,← hbet];exact hA.bet id x hlt hx
  ·rw [if_neg hlt];exact hx
 have hβ2 : ∀ id x,β id = some x → (if id < RID then β id else β' id) = some x:=fun id x hx=>by
  have h1:=(hdom id x hx).2
  have h2 : PID + 1000000 < RID:=by decide
  rw [if_pos (by omega)];exact hx
 have hwS : ∀ b,S b → w4.heap[b]? = w.heap[b]?:=fun b hb=>hk4.block b (hSB b hb)
 have hwS' : ∀ b,S' b → w4.heap[b]? = w3.heap[b]?:=fun b hb=>hoth b fun e=>hS'l (by rw [← e];exact hb)
 have hplP : ∀ j x,prow[j]? = some (some x) → ∀ g,og' (PID + j) = some g → g ≠ l:=fun j x hx g hg e=>(hA.prow j x hx).place.2 g hg (by rw [e];exact hBbl)
 have hplN : ∀ j x,nrow[j]? = some x → ∀ g,og' (RID + j) = some g → g ≠ l:=fun j x hx g hg e=>(hA.nrow j x hx).place.2 g hg (by rw [e];exact hBbl)
 obtain ⟨og2,hog2⟩ : ∃ og2 : Nat → Option Nat,og2 = fun id=>@ite _ (id = PID) _ (some l) (@ite _ ((∃ j x,id = PID + j ∧ prow[j]? = some (some x)) ∨ ∃ j x,id = RID + j ∧ nrow[j]? = some x) (Classical.propDecidable _) (og' id) none):=⟨_,rfl⟩
 rw [← hog2]
 suffices hfin : After w S B β (some (.box false (.tup (recA key d) :: tm)) :: prow.tail) nrow (.bool !d) (.bool !d) w4 S' (fun id=>if id < RID then β id else β' id) og2 by
  rw [hw4] at hfin
  cases d <;> exact hfin
 have hogP : og2 PID = some l:=by rw [hog2];simp
 have hogp : ∀ j x,prow[j + 1]? = some (some x) → og2 (PID + (j + 1)) = og' (PID + (j + 1)):=fun j x hx=>by
  rw [hog2]
  show @ite _ (PID + (j + 1) = PID) _ _ _ = _
  rw [if_neg (by omega),if_pos (.inl ⟨j + 1,x,rfl,hx⟩)]
 have hogn : ∀ j x,nrow[j]? = some x → og2 (RID + j) = og' (RID + j):=fun j x hx=>by
  rw [hog2]
  show @ite _ (RID + j = PID) _ _ _ = _
  rw [if_neg (by omega),if_pos (.inr ⟨j,x,rfl,hx⟩)]
 have hcl : ∀ id g,og2 id = some g → (id = PID ∧ g = l) ∨ (id ≠ PID ∧ g ≠ l ∧ og' id = some g):=fun id g hg=>by
  rw [hog2] at hg
  by_cases e : id = PID
  ·have hg : @ite _ (id = PID) _ (some l) _ = some g:=hg
   rw [if_pos e] at hg
   cases hg
   exact .inl ⟨e,rfl⟩
  ·have hg : @ite _ (id = PID) _ (some l) _ = some g:=hg
   rw [if_neg e] at hg
   split at hg
   ·rename_i hc
    refine .inr ⟨e,?_,hg⟩
    rcases hc with ⟨j,x,rfl,hx⟩ | ⟨j,x,rfl,hx⟩
    ·exact hplP j x hx g hg
    ·exact hplN j x hx g hg
   ·cases hg
 refine ⟨hk4,hsubA,fun b hb=>(hsinA b hb).imp id fun h hb=>h (hB2B b hb),.bool _ _,fun j x hx=>?_,fun j x hx=>?_,fun id id' g hg hg'=>?_,fun id g hg=>?_,fun id x hx=>?_,fun b hb=>by rw [hsz4];exact hA.Slt b hb,fun id x hlt hx=>by have hx : (if id < RID then β id else β' id) = some x:=hx;rw [if_pos hlt] at hx;exact hx⟩
 ·cases j with
  | zero =>
   simp only [List.getElem?_cons_zero,Option.some.injEq] at hx
   subst hx
   refine ⟨l,.tuple (recV key d).toArray :: us,.func (.yield l) #[] #[],hogP,hβ2 _ _ hbl,.inr (.inl ⟨_,key,us,d,hw4l,rfl,rfl,hlc,rfl,htm,rfl⟩),VRels.cons ?_ (htv.mono hsubA hwS hβ2),fun _=>hS'l,(fun h=>by cases h),hBl⟩
   exact .tup _ (recA key d) (recV key d) (by cases d <;> rfl) fun j c u hc hu=>by
    cases d with
    | false =>
     cases j with
     | zero=>simp [recA,recV] at hc hu;subst hc;subst hu;exact .int _ _ _
     | succ j=>simp [recA] at hc
    | true =>
     match j,hc,hu with
     | 0,hc,hu=>simp [recA,recV] at hc hu;subst hc;subst hu;exact .int _ _ _
     | 1,hc,hu=>simp [recA,recV] at hc hu;subst hc;subst hu;exact .bool _ _
     | j + 2,hc,_=>simp [recA] at hc
  | succ j =>
   have hx' : prow[j + 1]? = some (some x):=by
    rw [List.getElem?_cons_succ,List.getElem?_tail] at hx
    exact hx
   rw [hogp j x hx']
   exact ((hA.prow (j + 1) x hx').monoB (fun g _ hn hb=>hn (hup g hb))).keep hβ1 (fun _ h=>h) (fun _ _ h=>h) hwS' (fun g hg=>hoth g (hplP (j + 1) x hx' g hg))
 ·rw [hogn j x hx]
  exact ((hA.nrow j x hx).monoB (fun g _ hn hb=>hn (hup g hb))).keep hβ1 (fun _ h=>h) (fun _ _ h=>h) hwS' (fun g hg=>hoth g (hplN j x hx g hg))
 ·rcases hcl id g hg with ⟨rfl,rfl⟩ | ⟨h1,h2,h3⟩ <;> rcases hcl id' g hg' with ⟨rfl,h5⟩ | ⟨h4,h5,h6⟩
  ·rfl
  ·exact absurd rfl h5
  ·exact absurd h5 h2
  ·exact hA.inj id id' g h3 h6
 ·rw [hsz4]
  rcases hcl id g hg with ⟨_,rfl⟩ | ⟨_,_,h3⟩
  ·exact hl3
  ·exact hA.lt id g h3
 ·have hx : (if id < RID then β id else β' id) = some x:=hx
  split at hx
  ·exact hH.one id x hx
  ·exact hA.one id x hx
theorem yok_of (hΓ : GOK P Γ) (hD : DrawOK P Γ) (hr : Γ.rng = []) {key : Int} {q : Array Tmp × Code × Code} (hq : q = loopCode key) (hKa : KOK P Γ K q.2.1) (hKb : KOK P Γ K q.2.2) {F : SummX}
  (hF : ∀ ρ avs rows k r,F ρ avs rows k = some r → evY P Γ K key q ρ avs rows k = some r) : YOK P key F:=by
 intro ρ w S B β og avs tm rows args k r l r0 us hH hSB hdom hv hbl hol hhl hst hpd hlc htm htv hrun
 obtain ⟨hSB,hG⟩:=hSB
 have he:=hF _ _ _ _ _ hrun
 unfold evY at he
 simp only [beq_self_eq_true,Bool.true_and] at he
 split at he
 ·rename_i hsm
  have hsm:=Nat.le_of_ble_eq_true hsm
  rw [St.force_eq] at he
  exact yok_core hΓ hD hr hq hKa hKb hH ⟨hSB,hG⟩ hdom hv hbl hol hhl hst hpd hlc htm htv hsm he
 ·cases he
end
end Go.Ev


namespace Go.Proofs.YtijdnecnjenleaaGreatDoor
open Go.Ev
def F55 : List AV → Tr AV
 | [.slv (.agg [.str,.slice .str]) es,.slv .str fs]=>.leaf (.fn 92 [.ref [.slv sA es],.ref [.slv .str fs]])
 | _=>.no
theorem ok55 : SumOK Tryz.prog 55 (ofT F55) ∧ SNat (ofT F55):=by
 refine ⟨sum0 gE Tryz.func55 (by kernel_rfl) fun ρ avs k r h=>?_,snat_ofT _⟩
 change (F55 avs).run k = some r at h
 unfold F55 at h
 split at h
 ·rename_i es fs
  refine Eq.trans (b:=k (AV.fn (92 : Nat) [AV.ref [AV.slv (Sh.agg [Sh.str,Sh.str.slice]) es],AV.ref [AV.slv Sh.str fs]])) (by kernel_rfl) ?_
  exact h
 ·cases h
def all2 : List (AV → Bool) → List AV → Bool
 | [],[]=>true
 | f :: fs,x :: xs=>f x && all2 fs xs
 | _,_=>false
theorem all2_cons {f : AV → Bool} {fs : List (AV → Bool)} {l : List AV} (h : all2 (f :: fs) l = true) : ∃ x xs,l = x :: xs ∧ f x = true ∧ all2 fs xs = true:=by
 cases l with
 | nil=>cases h
 | cons x xs =>
  unfold all2 at h
  rw [Bool.and_eq_true] at h
  exact ⟨x,xs,rfl,h.1,h.2⟩
theorem all2_nil {l : List AV} (h : all2 [] l = true) : l = []:=by
 cases l with
 | nil=>rfl
 | cons x xs=>cases h
def rxU (v : AV) : Bool:=match v with
 | .undef=>true
 | _=>false
theorem rxU_spec {v : AV} (h : rxU v = true) : v = .undef:=by
 unfold rxU at h
 split at h
 ·rfl
 ·cases h
def rxA (v : AV) : Bool:=match v with
 | .slv (.agg [.str,.slice .str]) _=>true
 | _=>false
theorem rxA_spec {v : AV} (h : rxA v = true) : ∃ es,v = .slv (.agg [.str,.slice .str]) es:=by
 unfold rxA at h
 split at h
 ·exact ⟨_,rfl⟩
 ·cases h
def rxF (v : AV) : Bool:=match v with
 | .slv (.agg [.str,.slice .str,.bool]) _=>true
 | _=>false
theorem rxF_spec {v : AV} (h : rxF v = true) : ∃ fs,v = .slv (.agg [.str,.slice .str,.bool]) fs:=by
 unfold rxF at h
 split at h
 ·exact ⟨_,rfl⟩
 ·cases h
def rxS (v : AV) : Bool:=match v with
 | .str _=>true
 | _=>false
theorem rxS_spec {v : AV} (h : rxS v = true) : ∃ a,v = .str a:=by
 unfold rxS at h
 split at h
 ·exact ⟨_,rfl⟩
 ·cases h
def rxZ (v : AV) : Bool:=match v with
 | .slz .str=>true
 | _=>false
theorem rxZ_spec {v : AV} (h : rxZ v = true) : v = .slz .str:=by
 unfold rxZ at h
 split at h
 ·rfl
 ·cases h
def rxI2 (v : AV) : Bool:=match v with
 | .agg [.int .i64 _,.int .i64 _]=>true
 | _=>false
theorem rxI2_spec {v : AV} (h : rxI2 v = true) : ∃ fa fb,v = .agg [.int .i64 fa,.int .i64 fb]:=by
 unfold rxI2 at h
 split at h
 ·exact ⟨_,_,rfl⟩
 ·cases h
def rxB (v : AV) : Bool:=match v with
 | .bool _=>true
 | _=>false
theorem rxB_spec {v : AV} (h : rxB v = true) : ∃ b,v = .bool b:=by
 unfold rxB at h
 split at h
 ·exact ⟨_,rfl⟩
 ·cases h
def rxT (v : AV) : Bool:=match v with
 | .slv .str _=>true
 | _=>false
theorem rxT_spec {v : AV} (h : rxT v = true) : ∃ ts,v = .slv .str ts:=by
 unfold rxT at h
 split at h
 ·exact ⟨_,rfl⟩
 ·cases h
def rxFn (v : AV) : Bool:=match v with
 | .fn 92 [.ref [.slv (.agg [.str,.slice .str]) _],.ref [.slv .str _]]=>true
 | _=>false
theorem rxFn_spec {v : AV} (h : rxFn v = true) : ∃ es ts,v = .fn 92 [.ref [.slv (.agg [.str,.slice .str]) es],.ref [.slv .str ts]]:=by
 unfold rxFn at h
 split at h
 ·exact ⟨_,_,rfl⟩
 ·cases h
def rxP (n : Nat) (v : AV) : Bool:=match v with
 | .ptr a 0=>a == n
 | _=>false
theorem rxP_spec {n : Nat} {v : AV} (h : rxP n v = true) : v = .ptr n 0:=by
 unfold rxP at h
 split at h
 ·rw [eq_of_beq h]
 ·cases h
def rxO (n : Nat) (v : AV) : Bool:=match v with
 | .own a=>a == n
 | _=>false
theorem rxO_spec {n : Nat} {v : AV} (h : rxO n v = true) : v = .own n:=by
 unfold rxO at h
 split at h
 ·rw [eq_of_beq h]
 ·cases h
def rxK (n : Int) (v : AV) : Bool:=match v with
 | .tup [.int .i64 a]=>a == n
 | _=>false
theorem rxK_spec {n : Int} {v : AV} (h : rxK n v = true) : v = .tup [.int .i64 n]:=by
 unfold rxK at h
 split at h
 ·rw [eq_of_beq h]
 ·cases h
def rk0 : List (AV → Bool):=rxK 0 :: rxA :: rxS :: rxU :: rxU :: rxZ :: rxP 1125899906842625 :: rxP 1125899906842626 :: rxP 1125899906842627 :: rxP 1125899906842629 :: rxU :: rxA :: rxI2 :: rxI2 :: rxB :: rxU :: rxS :: rxB :: rxB :: rxU :: rxA :: [rxO 1125899906842628,rxA,rxS,rxT,rxFn,rxU,rxU,rxU,rxU,rxU,rxU,rxU,rxU,rxU,rxU,rxU]
theorem rk0_spec {l : List AV} (h0 : all2 rk0 l = true) : ∃ es1 a2 es3 fa4 fb5 fa6 fb7 b8 a9 b10 b11 es12 es13 a14 ts15 es16 ts17,l = .tup [.int .i64 0] :: .slv (.agg [.str,.slice .str]) es1 :: .str a2 :: .undef :: .undef :: .slz .str :: .ptr 1125899906842625 0 :: .ptr 1125899906842626 0 :: .ptr 1125899906842627 0 :: .ptr 1125899906842629 0 :: .undef :: .slv (.agg [.str,.slice .str]) es3 :: .agg [.int .i64 fa4,.int .i64 fb5] :: .agg [.int .i64 fa6,.int .i64 fb7] :: .bool b8 :: .undef :: .str a9 :: .bool b10 :: .bool b11 :: .undef :: .slv (.agg [.str,.slice .str]) es12 :: [.own 1125899906842628,.slv (.agg [.str,.slice .str]) es13,.str a14,.slv .str ts15,.fn 92 [.ref [.slv (.agg [.str,.slice .str]) es16],.ref [.slv .str ts17]],.undef,.undef,.undef,.undef,.undef,.undef,.undef,.undef,.undef,.undef,.undef]:=by
 unfold rk0 at h0
 obtain ⟨_,_,rfl,h',h1⟩:=all2_cons h0
 obtain rfl:=rxK_spec h'
 obtain ⟨_,_,rfl,h',h2⟩:=all2_cons h1
 obtain ⟨es1,rfl⟩:=rxA_spec h'
 obtain ⟨_,_,rfl,h',h3⟩:=all2_cons h2
 obtain ⟨a2,rfl⟩:=rxS_spec h'
 obtain ⟨_,_,rfl,h',h4⟩:=all2_cons h3
 obtain rfl:=rxU_spec h'
 obtain ⟨_,_,rfl,h',h5⟩:=all2_cons h4
 obtain rfl:=rxU_spec h'
 obtain ⟨_,_,rfl,h',h6⟩:=all2_cons h5
 obtain rfl:=rxZ_spec h'
 obtain ⟨_,_,rfl,h',h7⟩:=all2_cons h6
 obtain rfl:=rxP_spec h'
 obtain ⟨_,_,rfl,h',h8⟩:=all2_cons h7
 obtain rfl:=rxP_spec h'
 obtain ⟨_,_,rfl,h',h9⟩:=all2_cons h8
 obtain rfl:=rxP_spec h'
 obtain ⟨_,_,rfl,h',h10⟩:=all2_cons h9
 obtain rfl:=rxP_spec h'
 obtain ⟨_,_,rfl,h',h11⟩:=all2_cons h10
 obtain rfl:=rxU_spec h'
 obtain ⟨_,_,rfl,h',h12⟩:=all2_cons h11
 obtain ⟨es3,rfl⟩:=rxA_spec h'
 obtain ⟨_,_,rfl,h',h13⟩:=all2_cons h12
 obtain ⟨fa4,fb5,rfl⟩:=rxI2_spec h'
 obtain ⟨_,_,rfl,h',h14⟩:=all2_cons h13
 obtain ⟨fa6,fb7,rfl⟩:=rxI2_spec h'
 obtain ⟨_,_,rfl,h',h15⟩:=all2_cons h14
 obtain ⟨b8,rfl⟩:=rxB_spec h'
 obtain ⟨_,_,rfl,h',h16⟩:=all2_cons h15
 obtain rfl:=rxU_spec h'
 obtain ⟨_,_,rfl,h',h17⟩:=all2_cons h16
 obtain ⟨a9,rfl⟩:=rxS_spec h'
 obtain ⟨_,_,rfl,h',h18⟩:=all2_cons h17
 obtain ⟨b10,rfl⟩:=rxB_spec h'
 obtain ⟨_,_,rfl,h',h19⟩:=all2_cons h18
 obtain ⟨b11,rfl⟩:=rxB_spec h'
 obtain ⟨_,_,rfl,h',h20⟩:=all2_cons h19
 obtain rfl:=rxU_spec h'
 obtain ⟨_,_,rfl,h',h21⟩:=all2_cons h20
 obtain ⟨es12,rfl⟩:=rxA_spec h'
 obtain ⟨_,_,rfl,h',h22⟩:=all2_cons h21
 obtain rfl:=rxO_spec h'
 obtain ⟨_,_,rfl,h',h23⟩:=all2_cons h22
 obtain ⟨es13,rfl⟩:=rxA_spec h'
 obtain ⟨_,_,rfl,h',h24⟩:=all2_cons h23
 obtain ⟨a14,rfl⟩:=rxS_spec h'
 obtain ⟨_,_,rfl,h',h25⟩:=all2_cons h24
 obtain ⟨ts15,rfl⟩:=rxT_spec h'
 obtain ⟨_,_,rfl,h',h26⟩:=all2_cons h25
 obtain ⟨es16,ts17,rfl⟩:=rxFn_spec h'
 obtain ⟨_,_,rfl,h',h27⟩:=all2_cons h26
 obtain rfl:=rxU_spec h'
 obtain ⟨_,_,rfl,h',h28⟩:=all2_cons h27
 obtain rfl:=rxU_spec h'
 obtain ⟨_,_,rfl,h',h29⟩:=all2_cons h28
 obtain rfl:=rxU_spec h'
 obtain ⟨_,_,rfl,h',h30⟩:=all2_cons h29
 obtain rfl:=rxU_spec h'
 obtain ⟨_,_,rfl,h',h31⟩:=all2_cons h30
 obtain rfl:=rxU_spec h'
 obtain ⟨_,_,rfl,h',h32⟩:=all2_cons h31
 obtain rfl:=rxU_spec h'
 obtain ⟨_,_,rfl,h',h33⟩:=all2_cons h32
 obtain rfl:=rxU_spec h'
 obtain ⟨_,_,rfl,h',h34⟩:=all2_cons h33
 obtain rfl:=rxU_spec h'
 obtain ⟨_,_,rfl,h',h35⟩:=all2_cons h34
 obtain rfl:=rxU_spec h'
 obtain ⟨_,_,rfl,h',h36⟩:=all2_cons h35
 obtain rfl:=rxU_spec h'
 obtain ⟨_,_,rfl,h',h37⟩:=all2_cons h36
 obtain rfl:=rxU_spec h'
 obtain rfl:=all2_nil h37
 exact ⟨_,_,_,_,_,_,_,_,_,_,_,_,_,_,_,_,_,rfl⟩
def rk1 : List (AV → Bool):=rxK 1 :: rxF :: rxS :: rxP 1125899906842625 :: rxU :: rxZ :: rxP 1125899906842626 :: rxP 1125899906842627 :: rxP 1125899906842628 :: rxU :: rxU :: rxF :: rxI2 :: rxI2 :: rxB :: rxU :: rxS :: rxB :: rxB :: rxU :: rxF :: rxA :: rxS :: rxT :: rxFn :: rxU :: rxU :: rxU :: [rxU,rxU,rxU,rxU,rxU,rxU,rxU,rxU,rxU,rxU,rxU,rxU,rxU,rxU,rxU,rxU]
theorem rk1_spec {l : List AV} (h0 : all2 rk1 l = true) : ∃ fs1 a2 fs3 fa4 fb5 fa6 fb7 b8 a9 b10 b11 fs12 es13 a14 ts15 es16 ts17,l = .tup [.int .i64 1] :: .slv (.agg [.str,.slice .str,.bool]) fs1 :: .str a2 :: .ptr 1125899906842625 0 :: .undef :: .slz .str :: .ptr 1125899906842626 0 :: .ptr 1125899906842627 0 :: .ptr 1125899906842628 0 :: .undef :: .undef :: .slv (.agg [.str,.slice .str,.bool]) fs3 :: .agg [.int .i64 fa4,.int .i64 fb5] :: .agg [.int .i64 fa6,.int .i64 fb7] :: .bool b8 :: .undef :: .str a9 :: .bool b10 :: .bool b11 :: .undef :: .slv (.agg [.str,.slice .str,.bool]) fs12 :: .slv (.agg [.str,.slice .str]) es13 :: .str a14 :: .slv .str ts15 :: .fn 92 [.ref [.slv (.agg [.str,.slice .str]) es16],.ref [.slv .str ts17]] :: .undef :: .undef :: .undef :: [.undef,.undef,.undef,.undef,.undef,.undef,.undef,.undef,.undef,.undef,.undef,.undef,.undef,.undef,.undef,.undef]:=by
 unfold rk1 at h0
 obtain ⟨_,_,rfl,h',h1⟩:=all2_cons h0
 obtain rfl:=rxK_spec h'
 obtain ⟨_,_,rfl,h',h2⟩:=all2_cons h1
 obtain ⟨fs1,rfl⟩:=rxF_spec h'
 obtain ⟨_,_,rfl,h',h3⟩:=all2_cons h2
 obtain ⟨a2,rfl⟩:=rxS_spec h'
 obtain ⟨_,_,rfl,h',h4⟩:=all2_cons h3
 obtain rfl:=rxP_spec h'
 obtain ⟨_,_,rfl,h',h5⟩:=all2_cons h4
 obtain rfl:=rxU_spec h'
 obtain ⟨_,_,rfl,h',h6⟩:=all2_cons h5
 obtain rfl:=rxZ_spec h'
 obtain ⟨_,_,rfl,h',h7⟩:=all2_cons h6
 obtain rfl:=rxP_spec h'
 obtain ⟨_,_,rfl,h',h8⟩:=all2_cons h7
 obtain rfl:=rxP_spec h'
 obtain ⟨_,_,rfl,h',h9⟩:=all2_cons h8
 obtain rfl:=rxP_spec h'
 obtain ⟨_,_,rfl,h',h10⟩:=all2_cons h9
 obtain rfl:=rxU_spec h'
 obtain ⟨_,_,rfl,h',h11⟩:=all2_cons h10
 obtain rfl:=rxU_spec h'
 obtain ⟨_,_,rfl,h',h12⟩:=all2_cons h11
 obtain ⟨fs3,rfl⟩:=rxF_spec h'
 obtain ⟨_,_,rfl,h',h13⟩:=all2_cons h12
 obtain ⟨fa4,fb5,rfl⟩:=rxI2_spec h'
 obtain ⟨_,_,rfl,h',h14⟩:=all2_cons h13
 obtain ⟨fa6,fb7,rfl⟩:=rxI2_spec h'
 obtain ⟨_,_,rfl,h',h15⟩:=all2_cons h14
 obtain ⟨b8,rfl⟩:=rxB_spec h'
 obtain ⟨_,_,rfl,h',h16⟩:=all2_cons h15
 obtain rfl:=rxU_spec h'
 obtain ⟨_,_,rfl,h',h17⟩:=all2_cons h16
 obtain ⟨a9,rfl⟩:=rxS_spec h'
 obtain ⟨_,_,rfl,h',h18⟩:=all2_cons h17
 obtain ⟨b10,rfl⟩:=rxB_spec h'
 obtain ⟨_,_,rfl,h',h19⟩:=all2_cons h18
 obtain ⟨b11,rfl⟩:=rxB_spec h'
 obtain ⟨_,_,rfl,h',h20⟩:=all2_cons h19
 obtain rfl:=rxU_spec h'
 obtain ⟨_,_,rfl,h',h21⟩:=all2_cons h20
 obtain ⟨fs12,rfl⟩:=rxF_spec h'
 obtain ⟨_,_,rfl,h',h22⟩:=all2_cons h21
 obtain ⟨es13,rfl⟩:=rxA_spec h'
 obtain ⟨_,_,rfl,h',h23⟩:=all2_cons h22
 obtain ⟨a14,rfl⟩:=rxS_spec h'
 obtain ⟨_,_,rfl,h',h24⟩:=all2_cons h23
 obtain ⟨ts15,rfl⟩:=rxT_spec h'
 obtain ⟨_,_,rfl,h',h25⟩:=all2_cons h24
 obtain ⟨es16,ts17,rfl⟩:=rxFn_spec h'
 obtain ⟨_,_,rfl,h',h26⟩:=all2_cons h25
 obtain rfl:=rxU_spec h'
 obtain ⟨_,_,rfl,h',h27⟩:=all2_cons h26
 obtain rfl:=rxU_spec h'
 obtain ⟨_,_,rfl,h',h28⟩:=all2_cons h27
 obtain rfl:=rxU_spec h'
 obtain ⟨_,_,rfl,h',h29⟩:=all2_cons h28
 obtain rfl:=rxU_spec h'
 obtain ⟨_,_,rfl,h',h30⟩:=all2_cons h29
 obtain rfl:=rxU_spec h'
 obtain ⟨_,_,rfl,h',h31⟩:=all2_cons h30
 obtain rfl:=rxU_spec h'
 obtain ⟨_,_,rfl,h',h32⟩:=all2_cons h31
 obtain rfl:=rxU_spec h'
 obtain ⟨_,_,rfl,h',h33⟩:=all2_cons h32
 obtain rfl:=rxU_spec h'
 obtain ⟨_,_,rfl,h',h34⟩:=all2_cons h33
 obtain rfl:=rxU_spec h'
 obtain ⟨_,_,rfl,h',h35⟩:=all2_cons h34
 obtain rfl:=rxU_spec h'
 obtain ⟨_,_,rfl,h',h36⟩:=all2_cons h35
 obtain rfl:=rxU_spec h'
 obtain ⟨_,_,rfl,h',h37⟩:=all2_cons h36
 obtain rfl:=rxU_spec h'
 obtain ⟨_,_,rfl,h',h38⟩:=all2_cons h37
 obtain rfl:=rxU_spec h'
 obtain ⟨_,_,rfl,h',h39⟩:=all2_cons h38
 obtain rfl:=rxU_spec h'
 obtain ⟨_,_,rfl,h',h40⟩:=all2_cons h39
 obtain rfl:=rxU_spec h'
 obtain ⟨_,_,rfl,h',h41⟩:=all2_cons h40
 obtain rfl:=rxU_spec h'
 obtain ⟨_,_,rfl,h',h42⟩:=all2_cons h41
 obtain rfl:=rxU_spec h'
 obtain ⟨_,_,rfl,h',h43⟩:=all2_cons h42
 obtain rfl:=rxU_spec h'
 obtain ⟨_,_,rfl,h',h44⟩:=all2_cons h43
 obtain rfl:=rxU_spec h'
 obtain rfl:=all2_nil h44
 exact ⟨_,_,_,_,_,_,_,_,_,_,_,_,_,_,_,_,_,rfl⟩
noncomputable def GY0 : Env:={ pure:=[],ext:=[642] }
theorem gY0 : GOK Tryz.prog GY0:=GOK.flags gE
def nnB (e : AV) : Bool:=match e with
 | .tup [.str _,.slv .str (_ :: _)]=>true
 | _=>false
theorem nn_ok : ∀ {ms : List AV},ms.all nnB = true → mpOK .str (.slice .str) ms = true
 | [],_=>rfl
 | e :: ms,h=>by
  simp only [List.all_cons,Bool.and_eq_true] at h
  unfold mpOK
  rw [List.all_cons,Bool.and_eq_true]
  refine ⟨?_,nn_ok h.2⟩
  have h1:=h.1
  unfold nnB at h1
  split at h1
  ·rfl
  ·cases h1
theorem nn_get {k : AV} : ∀ {ms : List AV},ms.all nnB = true → mpHas k ms = true → ∃ x xs,mpGet k ms = .slv .str (x :: xs)
 | [],_,h=>by cases h
 | e :: ms,h,hh=>by
  simp only [List.all_cons,Bool.and_eq_true] at h
  rw [mpGet]
  rw [mpHas] at hh
  cases hk : keyB k (mpKey e)
  ·rw [hk,Bool.false_or] at hh
   rw [cond_false]
   exact nn_get h.2 hh
  ·rw [cond_true]
   have h1:=h.1
   unfold nnB at h1
   split at h1
   ·exact ⟨_,_,rfl⟩
   ·cases h1
def FY0 : List AV → List Row → Tr XOut
 | [.own p,.str s],[.box false rec,.box false [.int .i64 u1,.int .i64 u2],.box false [.int .i64 u3,.int .i64 u4],.box false [.own 1125899906842628],.box false [.mpv ms],.box false [.own 1125899906842630],.arr false .str e9 out none] =>
  .gd (p == PID && (all2 rk0 rec && (decide (e9 = 9 ∧ out.length ≤ 1000000) && ms.all nnB))) (.br (mpHas (.str s) ms)
   (.leaf (.bool true,[some (.box false rec),some (.box false [.int .i64 u1,.int .i64 u2]),some (.box false [.int .i64 u3,.int .i64 u4]),some (.box false [.own 1125899906842628]),some (.box false [.mpv ms]),some (.box false [.own 1125899906842630]),some (.arr false .str e9 out none)],[]))
   (.leaf (.bool true,[some (.box false rec),some (.box false [.int .i64 u1,.int .i64 u2]),some (.box false [.int .i64 u3,.int .i64 u4]),some (.box false [.own 1125899906842628]),some (.box false [.mpv ms]),some (.box false [.own RID]),none],[.arr false .str 9 (out ++ [.str s]) none])))
 | _,_=>.no
theorem yok0 : YOK Tryz.prog 0 (ofX FY0) ∧ XNat (ofX FY0):=by
 refine ⟨yok_of gY0 (drawOK gY0 (by kernel_rfl)) rfl (q:=loopCode 0) rfl (KOK.nil (by kernel_rfl)) (KOK.nil (by kernel_rfl)) (K:=[]) fun ρ avs rows k r h=>?_,xnat_ofX FY0⟩
 have h' : (FY0 avs rows).run (fun q=>k q.1 q.2.1 q.2.2) = some r:=h
 unfold FY0 at h'
 split at h'
 ·rename_i p s rec u1 u2 u3 u4 ms e9 out
  obtain ⟨hc,hk⟩:=gd_some h'
  simp only [Bool.and_eq_true] at hc
  obtain ⟨hp,hr,hb0,hm⟩:=hc
  obtain rfl : p = PID:=by simpa using hp
  obtain ⟨rfl,hb⟩:=of_decide_eq_true hb0
  clear hb0
  obtain ⟨es1,a2,es3,fa4,fb5,fa6,fb7,b8,a9,b10,b11,es12,es13,a14,ts15,es16,ts17,rfl⟩:=rk0_spec hr
  clear hr
  refine Eq.trans (b:=bif mpOK (shOf Tryz.prog depth (9 : Nat)) (shOf Tryz.prog depth (54 : Nat)) ms then bif mpHas (AV.str s) ms then bif ((mpGet (AV.str s) ms).cells.headD AV.unk).toList.isEmpty then none else k (AV.bool true) [some (Row.box false [AV.tup [AV.int .i64 0],AV.slv (Sh.agg [Sh.str,Sh.str.slice]) es1,AV.str a2,AV.undef,AV.undef,AV.slz Sh.str,AV.ptr 1125899906842625 (0 : Nat),AV.ptr 1125899906842626 (0 : Nat),AV.ptr 1125899906842627 (0 : Nat),AV.ptr 1125899906842629 (0 : Nat),AV.undef,AV.slv (Sh.agg [Sh.str,Sh.str.slice]) es3,AV.agg [AV.int .i64 fa4,AV.int .i64 fb5],AV.agg [AV.int .i64 fa6,AV.int .i64 fb7],AV.bool b8,AV.undef,AV.str a9,AV.bool b10,AV.bool b11,AV.undef,AV.slv (Sh.agg [Sh.str,Sh.str.slice]) es12,AV.own 1125899906842628,AV.slv (Sh.agg [Sh.str,Sh.str.slice]) es13,AV.str a14,AV.slv Sh.str ts15,AV.fn (92 : Nat) [AV.ref [AV.slv (Sh.agg [Sh.str,Sh.str.slice]) es16],AV.ref [AV.slv Sh.str ts17]],AV.undef,AV.undef,AV.undef,AV.undef,AV.undef,AV.undef,AV.undef,AV.undef,AV.undef,AV.undef,AV.undef]),some (Row.box false [AV.int .i64 u1,AV.int .i64 u2]),some (Row.box false [AV.int .i64 u3,AV.int .i64 u4]),some (Row.box false [AV.own 1125899906842628]),some (Row.box false [AV.mpv ms]),some (Row.box false [AV.own 1125899906842630]),some (Row.arr false Sh.str 9 out none)] [] else bif roomB (out.length + [AV.str s].length) (Tryz.prog.bytesOf 9) then k (AV.bool true) [some (Row.box false [AV.tup [AV.int .i64 0],AV.slv (Sh.agg [Sh.str,Sh.str.slice]) es1,AV.str a2,AV.undef,AV.undef,AV.slz Sh.str,AV.ptr 1125899906842625 (0 : Nat),AV.ptr 1125899906842626 (0 : Nat),AV.ptr 1125899906842627 (0 : Nat),AV.ptr 1125899906842629 (0 : Nat),AV.undef,AV.slv (Sh.agg [Sh.str,Sh.str.slice]) es3,AV.agg [AV.int .i64 fa4,AV.int .i64 fb5],AV.agg [AV.int .i64 fa6,AV.int .i64 fb7],AV.bool b8,AV.undef,AV.str a9,AV.bool b10,AV.bool b11,AV.undef,AV.slv (Sh.agg [Sh.str,Sh.str.slice]) es12,AV.own 1125899906842628,AV.slv (Sh.agg [Sh.str,Sh.str.slice]) es13,AV.str a14,AV.slv Sh.str ts15,AV.fn (92 : Nat) [AV.ref [AV.slv (Sh.agg [Sh.str,Sh.str.slice]) es16],AV.ref [AV.slv Sh.str ts17]],AV.undef,AV.undef,AV.undef,AV.undef,AV.undef,AV.undef,AV.undef,AV.undef,AV.undef,AV.undef,AV.undef]),some (Row.box false [AV.int .i64 u1,AV.int .i64 u2]),some (Row.box false [AV.int .i64 u3,AV.int .i64 u4]),some (Row.box false [AV.own 1125899906842628]),some (Row.box false [AV.mpv ms]),some (Row.box false [AV.own 2251799813685248]),none] [Row.arr false Sh.str 9 (out ++ [AV.str s]) none] else none else none) (by kernel_rfl) ?_
  rw [← hk,sh9,sh54,nn_ok hm,cond_true]
  cases hh : mpHas (.str s) ms
  ·have r9 : roomB (out.length + [AV.str s].length) (Tryz.prog.bytesOf 9) = true:=room9 (by rw [List.length_singleton];omega)
   rw [r9]
   refine Eq.symm (Eq.symm ?_)
   kernel_rfl
  ·obtain ⟨x,xs,e⟩:=nn_get hm hh
   rw [e]
   kernel_rfl
 ·cases h'
end Go.Proofs.YtijdnecnjenleaaGreatDoor

namespace Go.Proofs.YtijdnecnjenleaaGreatDoor
open Go.Ev
def tgt (tab : List AV) (s : List UInt8) : List AV:=bif mpHas (.str s) tab then (mpGet (.str s) tab).toList else []
def bfs (tab : List AV) (kp : List UInt8 → Bool) : Nat → (List AV × List AV) × List AV → (List AV × List AV) × List AV
 | 0,o=>o
 | f + 1,((ms,q),out)=>match q with
  | []=>((ms,[]),out)
  | x :: q'=>bfs tab kp f ((tgt tab (pS x)).foldl fndE (ms,q'),bif kp (pS x) then out ++ [.str (pS x)] else out)
def keyS (e : AV) : List UInt8:=pS (mpKey e)
structure Inv (tab : List AV) (U : List (List UInt8)) (ms q : List AV) : Prop where
 size : U.length ≤ 5000
 tr : ms.all trB = true
 nodup : (ms.map keyS).Nodup
 met : ∀ k ∈ ms.map keyS,k ∈ U
 row : ∀ x ∈ q,pS x ∈ U
 closed : ∀ s ∈ U,∀ t ∈ tgt tab s,pS t ∈ U
 few : ∀ s,(tgt tab s).length ≤ 100000
def mu (ms q : List AV) : Nat:=(5000 - ms.length) + q.length
theorem nodup_len {α : Type} [DecidableEq α] : ∀ {l U : List α},l.Nodup → (∀ x ∈ l,x ∈ U) → l.length ≤ U.length
 | [],_,_,_=>Nat.zero_le _
 | x :: l,U,hn,h=>by
  rw [List.nodup_cons] at hn
  have hx:=h x List.mem_cons_self
  have h2 : ∀ y ∈ l,y ∈ U.erase x:=fun y hy=>(List.mem_erase_of_ne (by rintro rfl;exact hn.1 hy)).2 (h y (List.mem_cons_of_mem _ hy))
  have h3:=nodup_len hn.2 h2
  have h4 : 0 < U.length:=List.length_pos_of_mem hx
  rw [List.length_erase_of_mem hx] at h3
  rw [List.length_cons]
  omega
theorem mpHas_iff {s : List UInt8} : ∀ {ms : List AV},ms.all trB = true → (mpHas (.str s) ms = true ↔ s ∈ ms.map keyS)
 | [],_=>by simp [mpHas]
 | e :: ms,h=>by
  simp only [List.all_cons,Bool.and_eq_true] at h
  rw [mpHas,Bool.or_eq_true,mpHas_iff h.2,List.map_cons,List.mem_cons]
  have h1:=h.1
  unfold trB at h1
  split at h1
  ·rename_i k
   refine or_congr ?_ Iff.rfl
   show (s == k) = true ↔ s = k
   exact beq_iff_eq
  ·cases h1
theorem Inv.met_le {tab : List AV} {U : List (List UInt8)} {ms q : List AV} (h : Inv tab U ms q) : ms.length ≤ 5000:=by
 have:=nodup_len h.nodup h.met
 rw [List.length_map] at this
 exact Nat.le_trans this h.size
theorem Inv.find1 {tab : List AV} {U : List (List UInt8)} {ms q : List AV} (h : Inv tab U ms q) (e : AV) (he : pS e ∈ U) : Inv tab U (fndE (ms,q) e).1 (fndE (ms,q) e).2 ∧ mu (fndE (ms,q) e).1 (fndE (ms,q) e).2 = mu ms q:=by
 unfold fndE
 cases hh : mpHas (.str (pS e)) ms with
 | true=>exact ⟨h,rfl⟩
 | false =>
  simp only [cond_false]
  have hn : pS e ∉ ms.map keyS:=fun hm=>by
   rw [(mpHas_iff h.tr).2 hm] at hh
   cases hh
  have hk : (ms ++ [AV.tup [.str (pS e),.bool true]]).map keyS = ms.map keyS ++ [pS e]:=by rw [List.map_append];rfl
  have hi : Inv tab U (ms ++ [.tup [.str (pS e),.bool true]]) (q ++ [.str (pS e)]):={
   size:=h.size
   tr:=by rw [List.all_append,h.tr];rfl
   nodup:=by
    rw [hk,List.nodup_append]
    refine ⟨h.nodup,by simp,fun a ha b hb hab=>?_⟩
    rw [List.mem_singleton] at hb
    subst hb
    subst hab
    exact hn ha
   met:=by
    rw [hk]
    intro k hm
    rcases List.mem_append.1 hm with hm | hm
    ·exact h.met k hm
    ·rw [List.mem_singleton] at hm;rw [hm];exact he
   row:=fun x hx=>by
    rcases List.mem_append.1 hx with hx | hx
    ·exact h.row x hx
    ·rw [List.mem_singleton] at hx;rw [hx];exact he
   closed:=h.closed
   few:=h.few }
  refine ⟨hi,?_⟩
  have:=hi.met_le
  unfold mu
  rw [List.length_append,List.length_singleton] at this
  rw [List.length_append,List.length_append,List.length_singleton,List.length_singleton]
  omega
theorem Inv.find {tab : List AV} {U : List (List UInt8)} : ∀ (es : List AV) {ms q : List AV},Inv tab U ms q → (∀ t ∈ es,pS t ∈ U) → Inv tab U (es.foldl fndE (ms,q)).1 (es.foldl fndE (ms,q)).2 ∧ mu (es.foldl fndE (ms,q)).1 (es.foldl fndE (ms,q)).2 = mu ms q
 | [],_,_,h,_=>⟨h,rfl⟩
 | e :: es,ms,q,h,hu=>by
  have h1:=h.find1 e (hu e List.mem_cons_self)
  rw [List.foldl_cons]
  have h2:=Inv.find es h1.1 fun t ht=>hu t (List.mem_cons_of_mem _ ht)
  exact ⟨h2.1,h2.2.trans h1.2⟩
theorem Inv.tail {tab : List AV} {U : List (List UInt8)} {ms q : List AV} {x : AV} (h : Inv tab U ms (x :: q)) : Inv tab U ms q :=
 ⟨h.size,h.tr,h.nodup,h.met,fun y hy=>h.row y (List.mem_cons_of_mem _ hy),h.closed,h.few⟩
theorem Inv.step {tab : List AV} {U : List (List UInt8)} {ms q : List AV} {x : AV} (h : Inv tab U ms (x :: q)) : Inv tab U ((tgt tab (pS x)).foldl fndE (ms,q)).1 ((tgt tab (pS x)).foldl fndE (ms,q)).2 ∧ mu ((tgt tab (pS x)).foldl fndE (ms,q)).1 ((tgt tab (pS x)).foldl fndE (ms,q)).2 + 1 = mu ms (x :: q):=by
 obtain ⟨h1,h2⟩:=h.tail.find (tgt tab (pS x)) (h.closed _ (h.row x List.mem_cons_self))
 refine ⟨h1,?_⟩
 rw [h2]
 unfold mu
 rw [List.length_cons]
 omega
def run (tab : List AV) (kp : List UInt8 → Bool) (ms q out : List AV) : List AV × List AV:=((bfs tab kp (mu ms q) ((ms,q),out)).1.1,(bfs tab kp (mu ms q) ((ms,q),out)).2)
theorem run_nil (tab : List AV) (kp : List UInt8 → Bool) (ms out : List AV) : run tab kp ms [] out = (ms,out):=by
 unfold run
 cases mu ms [] <;> rfl
theorem run_cons {tab : List AV} (kp : List UInt8 → Bool) {U : List (List UInt8)} {ms q : List AV} {x : AV} (out : List AV) (h : Inv tab U ms (x :: q)) : run tab kp ms (x :: q) out = run tab kp ((tgt tab (pS x)).foldl fndE (ms,q)).1 ((tgt tab (pS x)).foldl fndE (ms,q)).2 (bif kp (pS x) then out ++ [.str (pS x)] else out):=by
 obtain ⟨h1,h2⟩:=h.step
 unfold run
 rw [← h2]
 rfl
theorem run_spec {tab : List AV} (kp : List UInt8 → Bool) {U : List (List UInt8)} : ∀ (n : Nat) (ms q out : List AV),mu ms q ≤ n → Inv tab U ms q →
  (∃ l,(run tab kp ms q out).2 = out ++ l ∧ (∀ v ∈ l,∃ s,v = .str s ∧ kp s = true ∧ s ∈ U) ∧ l.length ≤ mu ms q ∧ ∀ x ∈ q,kp (pS x) = true → .str (pS x) ∈ l)
 | n,ms,[],out,hn,h=>by
  refine ⟨[],by rw [run_nil,List.append_nil],?_,Nat.zero_le _,?_⟩
  ·intro v hv;cases hv
  ·intro x hx;cases hx
 | 0,ms,x :: q,out,hn,h=>by unfold mu at hn;rw [List.length_cons] at hn;omega
 | n + 1,ms,x :: q,out,hn,h=>by
  obtain ⟨h1,h2⟩:=h.step
  rw [run_cons kp out h]
  obtain ⟨l,e1,e2,e3,e4⟩:=run_spec kp n _ _ (bif kp (pS x) then out ++ [.str (pS x)] else out) (by omega) h1
  have hq : ∀ y ∈ q,y ∈ ((tgt tab (pS x)).foldl fndE (ms,q)).2:=by
   have : ∀ (es : List AV) (o : List AV × List AV) (y : AV),y ∈ o.2 → y ∈ (es.foldl fndE o).2:=by
    intro es
    induction es with
    | nil=>exact fun o y hy=>hy
    | cons e es ih =>
     intro o y hy
     rw [List.foldl_cons]
     refine ih _ _ ?_
     unfold fndE
     cases mpHas (.str (pS e)) o.1
     ·exact List.mem_append_left _ hy
     ·exact hy
   exact fun y hy=>this _ _ _ hy
  cases hk : kp (pS x) with
  | false =>
   rw [hk] at e1
   refine ⟨l,e1,e2,by omega,fun y hy hky=>?_⟩
   rcases List.mem_cons.1 hy with rfl | hy
   ·rw [hk] at hky;cases hky
   ·exact e4 y (hq y hy) hky
  | true =>
   rw [hk] at e1
   refine ⟨.str (pS x) :: l,by rw [e1,cond_true,List.append_assoc];rfl,fun v hv=>?_,by rw [List.length_cons];omega,fun y hy hky=>?_⟩
   ·rcases List.mem_cons.1 hv with rfl | hv
    ·exact ⟨_,rfl,hk,h.row x List.mem_cons_self⟩
    ·exact e2 v hv
   ·rcases List.mem_cons.1 hy with rfl | hy
    ·exact List.mem_cons_self
    ·exact List.mem_cons_of_mem _ (e4 y (hq y hy) hky)
end Go.Proofs.YtijdnecnjenleaaGreatDoor
