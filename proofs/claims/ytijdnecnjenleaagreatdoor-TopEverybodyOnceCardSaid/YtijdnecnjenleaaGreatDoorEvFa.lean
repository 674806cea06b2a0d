/-
 What is known of the program's variables when a call begins (internal/bytealg.MaxLen holds some number;the powers of ten),and the bodies of the loops over functions.
-/
import Derived.Shelf.Strings.Builder1
import Derived.Shelf.Strings.Builder2
import Derived.Shelf.Strings.OnBuilder
import Derived.Shelf.Small.Utf8
import Derived.Shelf.Small.Bits
import Derived.Shelf.Small.Strs
import Derived.Shelf.Small.Wraps
import Derived.Shelf.Utf8.RuneCount
import Derived.Shelf.Strconv.Itoa0
import Derived.Shelf.Strconv.Itoa1
import Derived.Shelf.LaysM
import Derived.Shelf.Strconv.Itoa2
import Derived.Shelf.Strconv.Itoa3
import Derived.Shelf.Strings.Search1
import Derived.Shelf.Strings.Search2
import Derived.Shelf.Strings.Search3
import Derived.Shelf.Strings.Cut
import Derived.Shelf.Strings.Count
import Derived.Shelf.Strings.Shaped
import Derived.Shelf.Strings.Prefix
import Derived.Shelf.Strings.Split
import Derived.Shelf.Unicode.Decode
import Derived.Shelf.Strings.Runes
import Derived.Shelf.Strings.RuneCount
import Derived.Shelf.Strings.IndexAny
import Derived.Shelf.Strings.AsciiSet
import Derived.Shelf.Strings.IndexAnyAll
import Derived.Shelf.Unicode.DecodeSlow
import Derived.Shelf.Unicode.DecodeAny
import Derived.Shelf.Unicode.DecodeLast
import Derived.Shelf.Slices.Turned
import Derived.Shelf.Slices.Clone
import Derived.Shelf.Slices.SearchI
import Derived.Shelf.Bytes.SlIndexSmall
import Derived.Shelf.Bytes.SlIndexAt
import Derived.Shelf.Bytes.SlSearch0
import Derived.Shelf.Bytes.SlSearch1
import Derived.Shelf.Bytes.SlSearch2
import Derived.Shelf.Bytes.SlIndexWhole
import Derived.Shelf.SlicesE.Clone
import Derived.Shelf.Bytes.Small
import Derived.Shelf.Bytes.IndexByte
import Derived.Test.YtijdnecnjenleaaGreatDoorChecked
import Derived.Orders
import Derived.Below
import Derived.WalkKit
import Derived.Maps.AppendAt
import Derived.Test.YtijdnecnjenleaaGreatDoorProg
import Derived.Lib.LaidTab
import Derived.Lib.ItoaNum

namespace Go.Proofs
open Go.Shelf
def Tryz.lays156_ren : Go.Shelf.Ren:=⟨fun | 156=>312 | 165=>322 | 166=>323 | 169=>324 | 240=>335 | 241=>336 | 276=>343 | 277=>344 | n=>n,fun | 31=>54 | 9=>9 | 3=>3 | 4=>4 | 0=>0 | 20=>20 | 72=>391 | 76=>311 | 70=>389 | 37=>29 | 75=>310 | 127=>394 | 164=>430 | 5=>5 | 80=>392 | n=>n,fun | n=>n⟩
theorem Tryz.lays156 : Go.Proofs.Lays.n156 Tryz.prog Tryz.lays156_ren:={
 mixed:=by kernel_rfl
 f156:=Tryz.func312.trans (congrArg some (by kernel_rfl))
 f165:=Tryz.func322.trans (congrArg some (by kernel_rfl))
 f166:=Tryz.func323.trans (congrArg some (by kernel_rfl))
 f169:=Tryz.func324.trans (congrArg some (by kernel_rfl))
 f240:=Tryz.func335.trans (congrArg some (by kernel_rfl))
 f241:=Tryz.func336.trans (congrArg some (by kernel_rfl))
 f276:=Tryz.func343.trans (congrArg some (by kernel_rfl))
 f277:=Tryz.func344.trans (congrArg some (by kernel_rfl))
 t0:=Tryz.underlying0
 a0:=Tryz.isAgg0
 z0:=Tryz.sizeOf0
 v0:=Tryz.zeroValue0
 t3:=Tryz.underlying3
 a3:=Tryz.isAgg3
 z3:=Tryz.sizeOf3
 v3:=Tryz.zeroValue3
 t4:=Tryz.underlying4
 a4:=Tryz.isAgg4
 z4:=Tryz.sizeOf4
 v4:=Tryz.zeroValue4
 t9:=Tryz.underlying9
 a9:=Tryz.isAgg9
 z9:=Tryz.sizeOf9
 v9:=Tryz.zeroValue9
 t20:=Tryz.underlying20
 a20:=Tryz.isAgg20
 z20:=Tryz.sizeOf20
 v20:=Tryz.zeroValue20
 t31:=Tryz.underlying54
 a31:=Tryz.isAgg54
 z31:=Tryz.sizeOf54
 v31:=Tryz.zeroValue54
 t37:=Tryz.underlying29
 a37:=Tryz.isAgg29
 z37:=Tryz.sizeOf29
 v37:=Tryz.zeroValue29
 t70:=Tryz.underlying389
 a70:=Tryz.isAgg389
 z70:=Tryz.sizeOf389
 v70:=Tryz.zeroValue389
 t72:=Tryz.underlying391
 a72:=Tryz.isAgg391
 z72:=Tryz.sizeOf391
 v72:=Tryz.zeroValue391
 t75:=Tryz.underlying310
 a75:=Tryz.isAgg310
 z75:=Tryz.sizeOf310
 v75:=Tryz.zeroValue310
 t76:=Tryz.underlying311
 a76:=Tryz.isAgg311
 z76:=Tryz.sizeOf311
 v76:=Tryz.zeroValue311
 t127:=Tryz.underlying394
 a127:=Tryz.isAgg394
 z127:=Tryz.sizeOf394
 v127:=Tryz.zeroValue394
 t164:=Tryz.underlying430
 a164:=Tryz.isAgg430
 z164:=Tryz.sizeOf430
 v164:=Tryz.zeroValue430 }
theorem Tryz.Builder_Extra_156 : Builder.Extra Tryz.prog Tryz.lays156_ren:={
 sizeBuilder:=by kernel_rfl
 liesBuilder:=by kernel_rfl
 t5:=Tryz.underlying5
 a5:=Tryz.isAgg5
 z5:=Tryz.sizeOf5
 v5:=Tryz.zeroValue5
 infoByte:=by kernel_rfl
 cellsByte:=by kernel_rfl
 sizeByte:=by kernel_rfl
 neB5:=by decide }
open Go.RowKit in
theorem Tryz.strings_Join_none (a : Option Addr) (c : Nat) (sep : ByteArray) (w : World) :
  Calls Tryz.prog 312 #[.slice a 0 c,.string sep] w fun e w'=>e = .returned (.string ⟨#[]⟩) ∧ w' = w:=Any.strings_Join_none Tryz.lays156 Tryz.Builder_Extra_156 a c sep w
open Go.RowKit in
theorem Tryz.strings_Join (bk o c : Nat) (xs : List ByteArray) (sep : ByteArray) (w : World) (hcells : ∀ (j : Nat) x,xs[j]? = some x → w.cell? ⟨bk,o + j,none⟩ = some (.string x)) (hbk : bk < w.heap.size) (hN : xs.length ≤ 140737488355328) (hcap : xs.length ≤ c) (hlen : (Lib.join (xs.map (·.data.toList)) sep.data.toList).length ≤ 140737488355328) :
  Calls Tryz.prog 312 #[.slice (some ⟨bk,o,none⟩) xs.length c,.string sep] w fun e w'=>e = .returned (.string ⟨(Lib.join (xs.map (·.data.toList)) sep.data.toList).toArray⟩) ∧ Below w.heap.size w w':=Any.strings_Join Tryz.lays156 Tryz.Builder_Extra_156 bk o c xs sep w hcells hbk hN hcap hlen
def Tryz.laysM171_ren : Go.Shelf.Ren:=⟨fun | 171=>187 | 243=>205 | 246=>223 | 283=>250 | 284=>251 | 285=>252 | 286=>253 | 129=>119 | 317=>271 | 318=>272 | 319=>273 | 320=>274 | 337=>290 | 338=>291 | n=>n,fun | 3=>3 | 9=>9 | 2=>2 | 4=>4 | 171=>304 | 0=>0 | 53=>189 | 37=>29 | 5=>5 | 173=>306 | 212=>329 | 51=>187 | 20=>20 | 213=>330 | 46=>143 | 232=>377 | 233=>378 | n=>n,fun | 17=>1 | 18=>2 | 19=>3 | n=>n⟩
theorem Tryz.laysM171 : Go.Proofs.LaysM.n171 Tryz.prog Tryz.laysM171_ren:={
 mixed:=by kernel_rfl
 f129:=Tryz.func119.trans (congrArg some (by kernel_rfl))
 f171:=Tryz.func187.trans (congrArg some (by kernel_rfl))
 f243:=Tryz.func205.trans (congrArg some (by kernel_rfl))
 f246:=Tryz.func223.trans (congrArg some (by kernel_rfl))
 f283:=Tryz.func250.trans (congrArg some (by kernel_rfl))
 f284:=Tryz.func251.trans (congrArg some (by kernel_rfl))
 f285:=Tryz.func252.trans (congrArg some (by kernel_rfl))
 f286:=Tryz.func253.trans (congrArg some (by kernel_rfl))
 f317:=Tryz.func271.trans (congrArg some (by kernel_rfl))
 f318:=Tryz.func272.trans (congrArg some (by kernel_rfl))
 f319:=Tryz.func273.trans (congrArg some (by kernel_rfl))
 f320:=Tryz.func274.trans (congrArg some (by kernel_rfl))
 f337:=Tryz.func290.trans (congrArg some (by kernel_rfl))
 f338:=Tryz.func291.trans (congrArg some (by kernel_rfl))
 t0:=Tryz.underlying0
 a0:=Tryz.isAgg0
 z0:=Tryz.sizeOf0
 v0:=Tryz.zeroValue0
 t2:=Tryz.underlying2
 a2:=Tryz.isAgg2
 z2:=Tryz.sizeOf2
 v2:=Tryz.zeroValue2
 t3:=Tryz.underlying3
 a3:=Tryz.isAgg3
 z3:=Tryz.sizeOf3
 v3:=Tryz.zeroValue3
 t4:=Tryz.underlying4
 a4:=Tryz.isAgg4
 z4:=Tryz.sizeOf4
 v4:=Tryz.zeroValue4
 t5:=Tryz.underlying5
 a5:=Tryz.isAgg5
 z5:=Tryz.sizeOf5
 v5:=Tryz.zeroValue5
 t9:=Tryz.underlying9
 a9:=Tryz.isAgg9
 z9:=Tryz.sizeOf9
 v9:=Tryz.zeroValue9
 t20:=Tryz.underlying20
 a20:=Tryz.isAgg20
 z20:=Tryz.sizeOf20
 v20:=Tryz.zeroValue20
 t37:=Tryz.underlying29
 a37:=Tryz.isAgg29
 z37:=Tryz.sizeOf29
 v37:=Tryz.zeroValue29
 t46:=Tryz.underlying143
 a46:=Tryz.isAgg143
 z46:=Tryz.sizeOf143
 v46:=Tryz.zeroValue143
 t51:=Tryz.underlying187
 a51:=Tryz.isAgg187
 z51:=Tryz.sizeOf187
 v51:=Tryz.zeroValue187
 t53:=Tryz.underlying189
 a53:=Tryz.isAgg189
 z53:=Tryz.sizeOf189
 v53:=Tryz.zeroValue189
 t171:=Tryz.underlying304
 a171:=Tryz.isAgg304
 z171:=Tryz.sizeOf304
 v171:=Tryz.zeroValue304
 t173:=Tryz.underlying306
 a173:=Tryz.isAgg306
 z173:=Tryz.sizeOf306
 v173:=Tryz.zeroValue306
 t212:=Tryz.underlying329
 a212:=Tryz.isAgg329
 z212:=Tryz.sizeOf329
 v212:=Tryz.zeroValue329
 t213:=Tryz.underlying330
 a213:=Tryz.isAgg330
 z213:=Tryz.sizeOf330
 t232:=Tryz.underlying377
 a232:=Tryz.isAgg377
 z232:=Tryz.sizeOf377
 v232:=Tryz.zeroValue377
 t233:=Tryz.underlying378
 a233:=Tryz.isAgg378
 z233:=Tryz.sizeOf378
 v233:=Tryz.zeroValue378
 g17:=by kernel_rfl
 g18:=by kernel_rfl
 g19:=by kernel_rfl
 i0:=by kernel_rfl
 i2:=by kernel_rfl
 i3:=by kernel_rfl
 i4:=by kernel_rfl
 i5:=by kernel_rfl
 i9:=by kernel_rfl
 i20:=by kernel_rfl
 i37:=by kernel_rfl
 i46:=by kernel_rfl
 i51:=by kernel_rfl
 i53:=by kernel_rfl
 i171:=by kernel_rfl
 i173:=by kernel_rfl
 i212:=by kernel_rfl
 i232:=by kernel_rfl
 i233:=by kernel_rfl
 m17:=by kernel_rfl
 m18:=by kernel_rfl
 m19:=by kernel_rfl }
open Go.RowKit Go.Sort Go.Lib in
theorem Tryz.strconv_Itoa (n : Int) (h0 : -9223372036854775808 ≤ n) (h1 : n ≤ 9223372036854775807) (w : World) (htab : Lib.TabIs Tryz.prog w "internal/strconv.uint64pow10" .u64 Lib.pow10Tab) :
  Calls Tryz.prog 187 #[.int .i64 n] w fun e w'=>e = .returned (.string ⟨(Lib.itoa n).toArray⟩) ∧ ∃ k os,w' = grow (w.drewN k) os:=Any.strconv_Itoa Tryz.laysM171 n h0 h1 w htab
def Tryz.lays219_ren : Go.Shelf.Ren:=⟨fun | 219=>158 | 217=>125 | 225=>183 | 224=>184 | 267=>185 | 266=>159 | 314=>202 | n=>n,fun | 9=>9 | 3=>3 | 4=>4 | 5=>5 | 46=>143 | 146=>269 | 51=>187 | n=>n,fun | 1=>0 | n=>n⟩
theorem Tryz.lays219 : Go.Proofs.Lays.n219 Tryz.prog Tryz.lays219_ren:={
 mixed:=by kernel_rfl
 f217:=Tryz.func125.trans (congrArg some (by kernel_rfl))
 f219:=Tryz.func158.trans (congrArg some (by kernel_rfl))
 f224:=Tryz.func184.trans (congrArg some (by kernel_rfl))
 f225:=Tryz.func183.trans (congrArg some (by kernel_rfl))
 f266:=Tryz.func159.trans (congrArg some (by kernel_rfl))
 f267:=Tryz.func185.trans (congrArg some (by kernel_rfl))
 f314:=Tryz.func202.trans (congrArg some (by kernel_rfl))
 t3:=Tryz.underlying3
 a3:=Tryz.isAgg3
 z3:=Tryz.sizeOf3
 v3:=Tryz.zeroValue3
 t4:=Tryz.underlying4
 a4:=Tryz.isAgg4
 z4:=Tryz.sizeOf4
 v4:=Tryz.zeroValue4
 t5:=Tryz.underlying5
 a5:=Tryz.isAgg5
 z5:=Tryz.sizeOf5
 v5:=Tryz.zeroValue5
 t9:=Tryz.underlying9
 a9:=Tryz.isAgg9
 z9:=Tryz.sizeOf9
 v9:=Tryz.zeroValue9
 t46:=Tryz.underlying143
 a46:=Tryz.isAgg143
 z46:=Tryz.sizeOf143
 v46:=Tryz.zeroValue143
 t51:=Tryz.underlying187
 a51:=Tryz.isAgg187
 z51:=Tryz.sizeOf187
 v51:=Tryz.zeroValue187
 t146:=Tryz.underlying269
 a146:=Tryz.isAgg269
 z146:=Tryz.sizeOf269
 v146:=Tryz.zeroValue269
 g1:=by kernel_rfl }
open Go.RowKit Go.Lib in
theorem Tryz.stringslite_Index (s sub : ByteArray) (m : Int) (w : World) (hs : s.size < 4294967281) (hm : w.cell? ⟨0,0,none⟩ = some (.int .i64 m)) :
  Calls Tryz.prog 158 #[.string s,.string sub] w fun e w'=>e = .returned (.int .i64 (Lib.index s.data.toList sub.data.toList)) ∧ w' = w:=Any.stringslite_Index Tryz.lays219 s sub m w hs hm
def Tryz.lays185_ren : Go.Shelf.Ren:=⟨fun | 185=>208 | 187=>225 | 115=>224 | 253=>226 | 224=>184 | 254=>227 | 255=>254 | 291=>255 | n=>n,fun | 37=>29 | 3=>3 | 4=>4 | 0=>0 | 5=>5 | 46=>143 | 9=>9 | 146=>269 | 51=>187 | n=>n,fun | 1=>0 | n=>n⟩
theorem Tryz.lays185 : Go.Proofs.Lays.n185 Tryz.prog Tryz.lays185_ren:={
 mixed:=by kernel_rfl
 f115:=Tryz.func224.trans (congrArg some (by kernel_rfl))
 f185:=Tryz.func208.trans (congrArg some (by kernel_rfl))
 f187:=Tryz.func225.trans (congrArg some (by kernel_rfl))
 f224:=Tryz.func184.trans (congrArg some (by kernel_rfl))
 f253:=Tryz.func226.trans (congrArg some (by kernel_rfl))
 f254:=Tryz.func227.trans (congrArg some (by kernel_rfl))
 f255:=Tryz.func254.trans (congrArg some (by kernel_rfl))
 f291:=Tryz.func255.trans (congrArg some (by kernel_rfl))
 t0:=Tryz.underlying0
 a0:=Tryz.isAgg0
 z0:=Tryz.sizeOf0
 v0:=Tryz.zeroValue0
 t3:=Tryz.underlying3
 a3:=Tryz.isAgg3
 z3:=Tryz.sizeOf3
 v3:=Tryz.zeroValue3
 t4:=Tryz.underlying4
 a4:=Tryz.isAgg4
 z4:=Tryz.sizeOf4
 v4:=Tryz.zeroValue4
 t5:=Tryz.underlying5
 a5:=Tryz.isAgg5
 z5:=Tryz.sizeOf5
 v5:=Tryz.zeroValue5
 t9:=Tryz.underlying9
 a9:=Tryz.isAgg9
 z9:=Tryz.sizeOf9
 v9:=Tryz.zeroValue9
 t37:=Tryz.underlying29
 a37:=Tryz.isAgg29
 z37:=Tryz.sizeOf29
 v37:=Tryz.zeroValue29
 t46:=Tryz.underlying143
 a46:=Tryz.isAgg143
 z46:=Tryz.sizeOf143
 v46:=Tryz.zeroValue143
 t51:=Tryz.underlying187
 a51:=Tryz.isAgg187
 z51:=Tryz.sizeOf187
 v51:=Tryz.zeroValue187
 t146:=Tryz.underlying269
 a146:=Tryz.isAgg269
 z146:=Tryz.sizeOf269
 v146:=Tryz.zeroValue269
 g1:=by kernel_rfl }
open Go.RowKit Go.Lib in
theorem Tryz.bytes_Index_longer (p q : Option Addr) (n c m d : Nat) (w : World) (h2 : 2 ≤ m) (hnm : n < m) (hm : m ≤ 9223372036854775807) :
  Calls Tryz.prog 208 #[.slice p n c,.slice q m d] w fun e w'=>e = .returned (.int .i64 (-1)) ∧ w' = w:=Any.bytes_Index_longer Tryz.lays185 p q n c m d w h2 hnm hm
open Go.Proofs Go.RowKit Go.Lib in
theorem Tryz.bytes_Index_at (a1 a2 : Addr) (n c1 k c2 : Nat) (xs ys : List Int) (m : Int) (w : World) (hx : xs.length = n) (hy : ys.length = k) (hr1 : ∀ x ∈ xs,0 ≤ x ∧ x < 256) (hr2 : ∀ y ∈ ys,0 ≤ y ∧ y < 256) (hc1 : ∀ i,i < n → w.cell? (a1.add i) = some (.int .u8 (xs.getD i 0))) (hc2 : ∀ i,i < k → w.cell? (a2.add i) = some (.int .u8 (ys.getD i 0))) (hcap : n ≤ c1) (hs : n < 4294967281) (hk : k ≤ 9223372036854775807) (hm : w.cell? ⟨0,0,none⟩ = some (.int .i64 m)) :
  Calls Tryz.prog 208 #[.slice (some a1) n c1,.slice (some a2) k c2] w fun e w'=>e = .returned (.int .i64 (Lib.index (Lib.bytesOf xs) (Lib.bytesOf ys))) ∧ ∃ q,w' = w.drewN q:=Any.bytes_Index_at Tryz.lays185 a1 a2 n c1 k c2 xs ys m w hx hy hr1 hr2 hc1 hc2 hcap hs hk hm
end Go.Proofs


namespace Go.Ev
inductive Sh where
 | int (k : IntKind)
 | bool
 | str
 | slice (s : Sh)
 | agg (l : List Sh)
 | other
 deriving Inhabited
mutual
def Sh.beq : Sh → Sh → Bool
 | .int k,.int k'=>decide (k = k')
 | .bool,.bool=>true
 | .str,.str=>true
 | .slice s,.slice s'=>Sh.beq s s'
 | .agg l,.agg l'=>Sh.beqs l l'
 | _,_=>false
def Sh.beqs : List Sh → List Sh → Bool
 | [],[]=>true
 | a :: l,b :: l'=>Sh.beq a b && Sh.beqs l l'
 | _,_=>false
end
def Sh.cells : Sh → List Sh
 | .agg l=>l
 | s=>[s]
def Sh.width (s : Sh) : Nat:=s.cells.length
def shOf (P : Program) : Nat → TypeId → Sh
 | 0,_=>.other
 | n + 1,t =>
  match P.underlying t with
  | some (.int k)=>.int k
  | some .bool=>.bool
  | some .string=>.str
  | some (.slice e)=>.slice (shOf P n e)
  | some (.struct fs)=>.agg (fs.toList.flatMap fun f=>(shOf P n f.type).cells)
  | some (.array m e)=>.agg ((List.replicate m (shOf P n e).cells).flatten)
  | _=>.other
def depth : Nat:=12
inductive AV where
 | unk
 | undef
 | int (k : IntKind) (n : Int)
 | bool (b : Bool)
 | ubool
 | nl
 | str (s : List UInt8)
 | agg (cs : List AV)
 | tup (cs : List AV)
 | slv (s : Sh) (es : List AV)
 | slz (s : Sh)
 | eref (s : Sh) (es : List AV) (i off : Nat)
 | ref (cs : List AV)
 | ifr (t : Nat) (cs : List AV)
 | mpv (es : List AV)
 | nsl
 | ptr (id off : Nat)
 | eptr (id i off : Nat)
 | own (id : Nat)
 | sub (id lo len : Nat)
 | fn (f : Nat) (caps : List AV)
 deriving Inhabited
def AV.toInt : AV → Int
 | .int _ n=>n
 | _=>0
def AV.toBool : AV → Bool
 | .bool b=>b
 | _=>false
def AV.toStr : AV → List UInt8
 | .str s=>s
 | _=>[]
def AV.toList : AV → List AV
 | .slv _ es=>es
 | _=>[]
def AV.cells : AV → List AV
 | .agg cs=>cs
 | v=>[v]
def AV.cell (v : AV) (j : Nat) : AV:=v.cells.getD j .unk
def eta1 : Sh → AV → AV
 | .int k,v=>.int k v.toInt
 | .bool,v=>.bool v.toBool
 | .str,v=>.str v.toStr
 | .slice s,v=>.slv s v.toList
 | _,v=>v
def etas : List Sh → List AV → List AV
 | [],_=>[]
 | s :: l,cs=>eta1 s (cs.headD .unk) :: etas l cs.tail
def etaCells (s : Sh) (v : AV) : List AV:=etas s.cells v.cells
def mkAV (s : Sh) (cs : List AV) : AV :=
 match s with
 | .agg _=>.agg cs
 | _=>cs.headD .unk
def has1 : Sh → AV → Bool
 | .int k,.int k' _=>decide (k = k')
 | .bool,.bool _=>true
 | .str,.str _=>true
 | .slice s,.slv s' _=>Sh.beq s s'
 | .slice s,.slz s'=>Sh.beq s s'
 | .other,.fn _ _=>true
 | .other,.nl=>true
 | _,_=>false
def hass : List Sh → List AV → Bool
 | [],[]=>true
 | s :: l,c :: cs=>has1 s c && hass l cs
 | _,_=>false
def hasSh (s : Sh) (v : AV) : Bool :=
 match s,v with
 | .agg l,.agg cs=>hass l cs
 | .agg _,_=>false
 | s,v=>has1 s v
inductive Row where
 | box (imm : Bool) (cs : List AV)
 | arr (imm : Bool) (s : Sh) (e : TypeId) (es : List AV) (sp : Option (List AV))
 | foc (imm : Bool) (s : Sh) (e : TypeId) (pre : List AV) (cs : List AV) (post : List AV)
 deriving Inhabited
structure St where
 tm : List AV
 rows : List (Nat × Row)
 used : List Nat
inductive Ex where
 | normal
 | exit (id : Nat)
 | ret
def lookup (rows : List (Nat × Row)) (id : Nat) : Option Row :=
 match rows with
 | []=>none
 | (i,r) :: rest=>if i = id then some r else lookup rest id
def delRow (rows : List (Nat × Row)) (id : Nat) : List (Nat × Row) :=
 match rows with
 | []=>[]
 | (i,x) :: rest=>if i = id then delRow rest id else (i,x) :: delRow rest id
def setRow (rows : List (Nat × Row)) (id : Nat) (r : Row) : List (Nat × Row) :=
 match rows with
 | []=>[(id,r)]
 | (i,x) :: rest=>if i = id then (i,r) :: rest else (i,x) :: setRow rest id r
def ofLit : Value → AV
 | .int k n=>.int k n
 | .bool b=>.bool b
 | .string s=>.str s.data.toList
 | _=>.unk
def zero1 : Sh → AV
 | .int k=>.int k 0
 | .bool=>.bool false
 | .str=>.str []
 | .slice s=>.slz s
 | _=>.unk
def zeroCells (s : Sh) : List AV:=s.cells.map zero1
def val (tm : List AV) : Operand → AV
 | .tmp t=>tm.getD t .unk
 | .const v=>ofLit v
 | .func f=>.fn f []
 | .global _=>.unk
def put (st : St) (dst : Option Tmp) (v : AV) : St :=
 match dst with
 | some d=>{ st with tm:=st.tm.set d v }
 | none=>st
/- No reference to a row. -/
mutual
def AV.pureB : AV → Bool
 | .ptr .. | .eptr .. | .own .. | .sub .. | .unk=>false
 | .agg cs | .tup cs | .fn _ cs=>AV.pureBs cs
 | _=>true
def AV.pureBs : List AV → Bool
 | []=>true
 | c :: cs=>c.pureB && AV.pureBs cs
end
/- Nothing in it leads to memory. -/
mutual
def AV.flat : AV → Bool
 | .int .. | .bool _ | .str _ | .undef | .nl=>true
 | .agg cs | .tup cs=>AV.flats cs
 | _=>false
def AV.flats : List AV → Bool
 | []=>true
 | c :: cs=>c.flat && AV.flats cs
end
/- References to rows that are not listed are forgotten. -/
mutual
def AV.only (ids : List Nat) : AV → AV
 | .ptr i o=>if ids.contains i then .ptr i o else .unk
 | .eptr i j o=>if ids.contains i then .eptr i j o else .unk
 | .own i=>if ids.contains i then .own i else .unk
 | .sub i lo n=>if ids.contains i then .sub i lo n else .unk
 | .agg cs=>.agg (AV.onlys ids cs)
 | .tup cs=>.tup (AV.onlys ids cs)
 | .fn f cs=>.fn f (AV.onlys ids cs)
 | v=>v
def AV.onlys (ids : List Nat) : List AV → List AV
 | []=>[]
 | c :: cs=>c.only ids :: AV.onlys ids cs
end
def Row.only (ids : List Nat) : Row → Row
 | .box i cs=>.box i (AV.onlys ids cs)
 | .foc i s e p cs q=>.foc i s e p (AV.onlys ids cs) q
 | r=>r
/- A slice without elements is a slice without elements. -/
mutual
def AV.nz : AV → AV
 | .slz s=>.slv s []
 | .agg cs=>.agg (AV.nzs cs)
 | .tup cs=>.tup (AV.nzs cs)
 | v=>v
def AV.nzs : List AV → List AV
 | []=>[]
 | c :: cs=>c.nz :: AV.nzs cs
end
/- Evaluation by hand: the same value,its constructors brought forth. -/
mutual
def AV.force {α : Type} : AV → (AV → α) → α
 | .unk,k=>k .unk
 | .undef,k=>k .undef
 | .int a b,k=>k (.int a b)
 | .bool b,k=>k (.bool b)
 | .ubool,k=>k .ubool
 | .nl,k=>k .nl
 | .str s,k=>k (.str s)
 | .agg cs,k=>AV.forces cs fun cs'=>k (.agg cs')
 | .tup cs,k=>AV.forces cs fun cs'=>k (.tup cs')
 | .slv s es,k=>k (.slv s es)
 | .slz s,k=>k (.slz s)
 | .eref s es i off,k=>k (.eref s es i off)
 | .ref cs,k=>AV.forces cs fun cs'=>k (.ref cs')
 | .ifr t cs,k=>AV.forces cs fun cs'=>k (.ifr t cs')
 | .mpv es,k=>k (.mpv es)
 | .nsl,k=>k .nsl
 | .ptr id off,k=>k (.ptr id off)
 | .eptr id i off,k=>k (.eptr id i off)
 | .own id,k=>k (.own id)
 | .sub id lo n,k=>k (.sub id lo n)
 | .fn f cs,k=>AV.forces cs fun cs'=>k (.fn f cs')
def AV.forces {α : Type} : List AV → (List AV → α) → α
 | [],k=>k []
 | c :: cs,k=>c.force fun c'=>AV.forces cs fun cs'=>k (c' :: cs')
end
def Row.force {α : Type} : Row → (Row → α) → α
 | .box i cs,k=>AV.forces cs fun cs'=>k (.box i cs')
 | .arr i s e es sp,k=>k (.arr i s e es sp)
 | .foc i s e p cs q,k=>AV.forces cs fun cs'=>k (.foc i s e p cs' q)
def forceRows {α : Type} : List (Nat × Row) → (List (Nat × Row) → α) → α
 | [],k=>k []
 | (i,r) :: rest,k=>r.force fun r'=>forceRows rest fun rest'=>k ((i,r') :: rest')
def forceL {α : Type} : List Nat → (List Nat → α) → α
 | [],k=>k []
 | i :: l,k=>forceL l fun l'=>k (i :: l')
def St.force {α : Type} (st : St) (k : St → α) : α:=AV.forces st.tm fun tm=>forceRows st.rows fun rows=>forceL st.used fun used=>k ⟨tm,rows,used⟩
def purL (f : AV → Option (AV × List Nat)) : List AV → Option (List AV × List Nat)
 | []=>some ([],[])
 | c :: cs =>
  match f c with
  | none=>none
  | some p=>match purL f cs with
   | none=>none
   | some q=>some (p.1 :: q.1,p.2 ++ q.2)
def pur1 (rows : List (Nat × Row)) : Nat → AV → Option (AV × List Nat)
 | 0,_=>none
 | n + 1,v =>
  match v with
  | .ptr id off =>
   match lookup rows id with
   | some (.box _ cs)=>(purL (pur1 rows n) cs).map fun p=>(.ref (p.1.drop off),id :: p.2)
   | _=>none
  | .eptr id i off =>
   match lookup rows id with
   | some (.arr _ s _ es _)=>if i < es.length then some (.eref s es i off,[id]) else none
   | _=>none
  | .own id =>
   match lookup rows id with
   | some (.arr _ s _ es _)=>some (.slv s es,[id])
   | some (.foc _ s _ pre cs post) =>
    match purL (pur1 rows n) cs with
    | some p=>if hasSh s (mkAV s p.1) then some (.slv s (pre ++ mkAV s p.1 :: post),id :: p.2) else none
    | none=>none
   | _=>none
  | .sub id lo n =>
   match lookup rows id with
   | some (.arr _ s _ es _)=>if lo + n ≤ es.length then some (.slv s ((es.drop lo).take n),[id]) else none
   | _=>none
  | .unk=>none
  | .agg cs=>(purL (pur1 rows n) cs).map fun p=>(.agg p.1,p.2)
  | .tup cs=>(purL (pur1 rows n) cs).map fun p=>(.tup p.1,p.2)
  | .fn f cs=>(purL (pur1 rows n) cs).map fun p=>(.fn f p.1,p.2)
  | v=>some (v,[])
def PID : Nat:=1125899906842624
def RID : Nat:=2251799813685248
/- Rows get other numbers;those that get none are forgotten. -/
mutual
def AV.ren (m : Nat → Option Nat) : AV → AV
 | .ptr i o=>match m i with
  | some j=>.ptr j o
  | none=>.unk
 | .eptr i k o=>match m i with
  | some j=>.eptr j k o
  | none=>.unk
 | .own i=>match m i with
  | some j=>.own j
  | none=>.unk
 | .sub i lo n=>match m i with
  | some j=>.sub j lo n
  | none=>.unk
 | .agg cs=>.agg (AV.rens m cs)
 | .tup cs=>.tup (AV.rens m cs)
 | .fn f cs=>.fn f (AV.rens m cs)
 | v=>v
def AV.rens (m : Nat → Option Nat) : List AV → List AV
 | []=>[]
 | c :: cs=>c.ren m :: AV.rens m cs
end
def Row.ren (m : Nat → Option Nat) : Row → Row
 | .box i cs=>.box i (AV.rens m cs)
 | .foc i s e p cs q=>.foc i s e p (AV.rens m cs) q
 | r=>r
def Row.forget : Row → Row
 | .arr i s e es _=>.arr i s e es none
 | r=>r
mutual
def AV.refs : AV → List Nat
 | .ptr i _=>[i]
 | .eptr i _ _=>[i]
 | .own i=>[i]
 | .sub i _ _=>[i]
 | .agg cs=>AV.refss cs
 | .tup cs=>AV.refss cs
 | .fn _ cs=>AV.refss cs
 | _=>[]
def AV.refss : List AV → List Nat
 | []=>[]
 | c :: cs=>c.refs ++ AV.refss cs
end
def idx : List Nat → Nat → Option Nat
 | [],_=>none
 | x :: l,i=>if i = x then some 0 else (idx l i).map (· + 1)
def opn1 (rows : List (Nat × Row)) : Nat → AV → Option (AV × List Nat)
 | 0,_=>none
 | n + 1,v =>
  match v with
  | .ptr id off =>
   match lookup rows id with
   | some (.box false _)=>some (.ptr id off,[])
   | some (.box true _)=>pur1 rows depth (.ptr id off)
   | _=>none
  | .eptr id i off =>
   match lookup rows id with
   | some (.arr false ..)=>some (.eptr id i off,[])
   | some (.arr true ..)=>pur1 rows depth (.eptr id i off)
   | _=>none
  | .own id =>
   match lookup rows id with
   | some (.arr false ..)=>some (.own id,[])
   | some (.arr true ..)=>pur1 rows depth (.own id)
   | some (.foc false ..)=>some (.own id,[])
   | some (.foc true ..)=>pur1 rows depth (.own id)
   | some (.box false _)=>some (.own id,[])
   | _=>none
  | .sub id lo m =>
   match lookup rows id with
   | some (.arr false ..)=>some (.sub id lo m,[])
   | some (.arr true ..)=>pur1 rows depth (.sub id lo m)
   | _=>none
  | .agg cs=>(purL (opn1 rows n) cs).map fun p=>(.agg p.1,p.2)
  | .tup cs=>(purL (opn1 rows n) cs).map fun p=>(.tup p.1,p.2)
  | .fn f cs=>(purL (opn1 rows n) cs).map fun p=>(.fn f p.1,p.2)
  | v=>some (v,[])
def reachF (rows : List (Nat × Row)) (f : List AV → List Nat → List Nat) : List Nat → List Nat → List Nat
 | [],acc=>acc
 | i :: is,acc =>
  if acc.contains i then reachF rows f is acc else
  match lookup rows i with
  | some (.box false cs)=>reachF rows f is (f cs (acc ++ [i]))
  | some (.arr false ..)=>reachF rows f is (acc ++ [i])
  | some (.foc false _ _ _ cs _)=>reachF rows f is (f cs (acc ++ [i]))
  | _=>reachF rows f is acc
def reach (rows : List (Nat × Row)) : Nat → List AV → List Nat → List Nat
 | 0,_,acc=>acc
 | n + 1,avs,acc=>reachF rows (reach rows n) (AV.refss avs) acc
def nodupB : List Nat → Bool
 | []=>true
 | i :: is=>!is.contains i && nodupB is
def rowsAt (rows : List (Nat × Row)) : List Nat → Option (List Row × List Nat)
 | []=>some ([],[])
 | i :: is =>
  match rowsAt rows is with
  | none=>none
  | some q =>
   match lookup rows i with
   | some (.box false cs) =>
    match purL (opn1 rows depth) cs with
    | some p=>some (.box false p.1 :: q.1,p.2 ++ q.2)
    | none=>none
   | some (.arr false s e es sp)=>some (.arr false s e es sp :: q.1,q.2)
   | some (.foc false s e pre cs post) =>
    match purL (opn1 rows depth) cs with
    | some p=>some (.foc false s e pre p.1 post :: q.1,p.2 ++ q.2)
    | none=>none
   | _=>none
def zipIds (b : Nat) : List Row → List (Nat × Row)
 | []=>[]
 | r :: rs=>(b,r) :: zipIds (b + 1) rs
end Go.Ev


namespace Go.Ev
def nilB : Value → Bool
 | .nilFunc | .pointer none | .map none | .nilIface | .chan none=>true
 | _=>false
def ofCell (s : Sh) : Value → AV
 | .int k n=>.int k n
 | .bool b=>.bool b
 | .string x=>.str x.data.toList
 | .slice none 0 0=>match s with
  | .slice s'=>.slz s'
  | _=>.unk
 | v=>if nilB v then .nl else .unk
def ofCells : List Sh → List Value → List AV
 | _,[]=>[]
 | l,v :: vs=>ofCell (l.headD .other) v :: ofCells l.tail vs
def ofVal (s : Sh) : Value → AV
 | .agg cs=>if cs.toList.all Value.oneCell' then .agg (ofCells s.cells cs.toList) else .unk
 | .tuple vs=>if vs.size = 0 then .undef else .unk
 | v=>ofCell s v
def valT (P : Program) (tm : List AV) (t : TypeId) : Operand → AV
 | .tmp n=>tm.getD n .unk
 | .const v=>ofVal (shOf P depth t) v
 | .func f=>.fn f []
 | .global _=>.unk
def isAggT (P : Program) (t : TypeId) : Bool :=
 match P.underlying t with
 | some (.struct _)=>true
 | some (.array _ _)=>true
 | _=>false
def AV.laidB : AV → Bool
 | .unk | .undef | .tup _ | .mpv _=>false
 | _=>true
def splice (cs : List AV) (off : Nat) (new : List AV) : List AV:=cs.take off ++ new ++ cs.drop (off + new.length)
def inb (n : Int) (m : Nat) : Bool:=decide (0 ≤ n) && decide (n < m)
def slb (l h : Int) (m : Nat) : Bool:=decide (0 ≤ l) && (decide (l ≤ h) && decide (h ≤ m))
def roomB (n bytes : Nat) : Bool:=(decide (n * bytes ≤ 140737488355328) || (decide (bytes = 1) && decide (n ≤ 150000000000000))) && decide (n ≤ 4611686018427387904)
def lenB (n : Nat) : Bool:=decide (n ≤ 9223372036854775807)
def Row.freeze : Row → Row
 | .box _ cs=>.box true cs
 | .arr _ s e es sp=>.arr true s e es sp
 | .foc _ s e p cs q=>.foc true s e p cs q
def setImm (ids : List Nat) : List (Nat × Row) → List (Nat × Row)
 | []=>[]
 | (i,r) :: rest=>(i,if ids.contains i then r.freeze else r) :: setImm ids rest
def fieldOf (P : Program) (t : TypeId) (f : Nat) : Option Field :=
 match P.underlying t with
 | some (.struct fs)=>fs[f]?
 | _=>none
def fillA (place : Nat → Option (Nat × Nat)) (cells : List AV) : List (Nat × AV) → Option (List AV)
 | []=>some cells
 | (i,v) :: rest =>
  match place i with
  | none=>none
  | some p =>
   if v.laidB && (v.cells.length == p.2 && Nat.ble (p.1 + v.cells.length) cells.length) then fillA place (splice cells p.1 v.cells) rest else none
def zeroAV (P : Program) (t : TypeId) : Option (List AV) :=
 match P.info? t with
 | some i=>match i.zero with
  | some v=>if (ofVal (shOf P depth t) v).laidB then some (ofVal (shOf P depth t) v).cells else none
  | none=>none
 | none=>none
def partTypes (P : Program) (t : TypeId) (i : Nat) : TypeId :=
 match P.underlying t with
 | some (.struct fs)=>((fs[i]?).map (·.type)).getD 0
 | some (.array _ e)=>e
 | some (.slice e)=>e
 | _=>0
def partsKnown (P : Program) (t : TypeId) : Bool :=
 match P.underlying t with
 | some (.struct fs)=>fs.toList.all fun f=>(P.info? f.type).isSome
 | some (.array _ e)=>(P.info? e).isSome
 | _=>false
def placeOf (P : Program) (t : TypeId) (i : Nat) : Option (Nat × Nat) :=
 match P.underlying t with
 | some (.struct fs)=>(fs[i]?).map fun f=>(f.offset,P.cellsOf f.type)
 | some (.array _ e)=>some (i * P.cellsOf e,P.cellsOf e)
 | _=>none
def fillE (s : Sh) (es : List AV) : List (Nat × AV) → Option (List AV)
 | []=>some es
 | (i,v) :: rest=>if hasSh s v && Nat.blt i es.length then fillE s (es.set i v) rest else none
def eqA (P : Program) : List Field → Nat → List AV → List AV → Option Bool
 | [],_,[],[]=>some true
 | f :: fs,n,c :: cs,d :: ds =>
  if (f.name != "_") && (f.offset == n) then
   match P.underlying f.type,c,d with
   | some (.int _),.int k a,.int k' b=>if k = k' then (match eqA P fs (n + 1) cs ds with | some r=>some ((a == b) && r) | none=>none) else none
   | some .bool,.bool a,.bool b=>(match eqA P fs (n + 1) cs ds with | some r=>some ((a == b) && r) | none=>none)
   | some .string,.str a,.str b=>(match eqA P fs (n + 1) cs ds with | some r=>some ((a == b) && r) | none=>none)
   | _,_,_=>none
  else none
 | _,_,_,_=>none
def eqStruct (P : Program) (t : TypeId) (cs ds : List AV) : Option Bool :=
 match P.underlying t with
 | some (.struct fs)=>if !P.stoodInHeld t && !P.eqGuardType P.depth t then eqA P fs.toList 0 cs ds else none
 | _=>none
def binInt {ρ : Type} (op : BinOp) (k : IntKind) (a b : Int) (y : AV → Option ρ) : Option ρ :=
 match op with
 | .add=>y (.int k (k.wrap (a + b)))
 | .sub=>y (.int k (k.wrap (a - b)))
 | .mul=>y (.int k (k.wrap (a * b)))
 | .quo=>bif decide (b = 0) then none else y (.int k (k.wrap (a.tdiv b)))
 | .rem=>bif decide (b = 0) then none else y (.int k (a.tmod b))
 | .and=>y (.int k (k.wrap (BitVec.ofInt k.bits a &&& BitVec.ofInt k.bits b).toNat))
 | .or=>y (.int k (k.wrap (BitVec.ofInt k.bits a ||| BitVec.ofInt k.bits b).toNat))
 | .xor=>y (.int k (k.wrap (BitVec.ofInt k.bits a ^^^ BitVec.ofInt k.bits b).toNat))
 | .eql=>y (.bool (a == b))
 | .neq=>y (.bool (a != b))
 | .lss=>y (.bool (decide (a < b)))
 | .leq=>y (.bool (decide (a ≤ b)))
 | .gtr=>y (.bool (decide (a > b)))
 | .geq=>y (.bool (decide (a ≥ b)))
 | _=>none
def binShift {ρ : Type} (op : BinOp) (k : IntKind) (a b : Int) (y : AV → Option ρ) : Option ρ :=
 match op with
 | .shl=>bif decide (b < 0) then none else y (.int k (k.wrap (a * 2 ^ (min b.toNat k.bits))))
 | .shr=>bif decide (b < 0) then none else y (.int k (a.fdiv (2 ^ (min b.toNat k.bits))))
 | _=>none
def binStr {ρ : Type} (op : BinOp) (a b : List UInt8) (y : AV → Option ρ) : Option ρ :=
 match op with
 | .add=>bif lenB (a.length + b.length) then y (.str (a ++ b)) else none
 | .eql=>y (.bool (a == b))
 | .neq=>y (.bool !(a == b))
 | .lss=>y (.bool (Op.bytesLess a b))
 | .leq=>y (.bool (Op.bytesLess a b || a == b))
 | .gtr=>y (.bool !(Op.bytesLess a b || a == b))
 | .geq=>y (.bool !(Op.bytesLess a b))
 | _=>none
def evBin {ρ : Type} (P : Program) (op : BinOp) (t : TypeId) (x z : AV) (y : AV → Option ρ) : Option ρ :=
 match x,z with
 | .int k a,.int k' b =>
  match op with
  | .shl | .shr=>binShift op k a b y
  | _=>if k = k' then binInt op k a b y else none
 | .str a,.str b=>binStr op a b y
 | .bool a,.bool b =>
  match P.underlying t with
  | some .bool =>
   match op with
   | .eql=>y (.bool (a == b))
   | .neq=>y (.bool !(a == b))
   | _=>none
  | _=>none
 | .agg cs,.agg ds =>
  match eqStruct P t cs ds with
  | some r =>
   match op with
   | .eql=>y (.bool r)
   | .neq=>y (.bool !r)
   | _=>none
  | none=>none
 | _,_=>none
def isNilC : Operand → Bool
 | .const (.slice none 0 0)=>true
 | _=>false
def evNil {ρ : Type} (P : Program) (op : BinOp) (t : TypeId) (x : AV) (y : AV → Option ρ) : Option ρ :=
 match P.underlying t,x with
 | some (.slice _),.slv _ es =>
  match op with
  | .eql=>bif es.isEmpty then y .ubool else y (.bool false)
  | .neq=>bif es.isEmpty then y .ubool else y (.bool true)
  | _=>none
 | some (.slice _),.nsl =>
  match op with
  | .eql=>y (.bool true)
  | .neq=>y (.bool false)
  | _=>none
 | _,_=>none
def minInt (k : IntKind) (x : Int) : List AV → Option Int
 | []=>some x
 | .int k' y :: l=>if k = k' then minInt k (if y < x then y else x) l else none
 | _=>none
def maxInt (k : IntKind) (x : Int) : List AV → Option Int
 | []=>some x
 | .int k' y :: l=>if k = k' then maxInt k (if y > x then y else x) l else none
 | _=>none
abbrev Summ:=(ρ : Type) → List AV → (AV → Option ρ) → Option ρ
abbrev SummX:=(ρ : Type) → List AV → List Row → (AV → List (Option Row) → List Row → Option ρ) → Option ρ
structure Env where
 pure : List (Nat × Summ)
 opens : List (Nat × SummX):=[]
 tmpX : Bool:=false
 ext : List Nat:=[]
 fork : Bool:=false
 conv : Bool:=false
 hole : Bool:=false
 rng : List (Nat × Int × Nat):=[]
 yld : Option (Int × Nat × SummX):=none
 unroll : Nat:=0
def findIn.{u} {α : Type u} (l : List (Nat × α)) (f : Nat) : Option α :=
 match l with
 | []=>none
 | (i,F) :: rest=>if i = f then some F else findIn rest f
def find (Γ : Env) (f : Nat) : Option Summ:=findIn Γ.pure f
def findX (Γ : Env) (f : Nat) : Option SummX:=findIn Γ.opens f
def valsT (P : Program) (tm : List AV) : List TypeId → List Operand → List AV
 | t :: ts,x :: xs=>valT P tm t x :: valsT P tm ts xs
 | [],x :: xs=>val tm x :: valsT P tm [] xs
 | _,[]=>[]
def optInt : Option AV → Int → Int
 | some v,_=>v.toInt
 | none,d=>d
def optIsInt : Option AV → Bool
 | some (.int _ _)=>true
 | none=>true
 | _=>false
def elemsOf (rows : List (Nat × Row)) : AV → Option (Sh × List AV)
 | .slv s es=>some (s,es)
 | .slz s=>some (s,[])
 | .own id=>match lookup rows id with
  | some (.arr _ s _ es _)=>some (s,es)
  | _=>none
 | .sub id lo n=>match lookup rows id with
  | some (.arr _ s _ es _)=>if lo + n ≤ es.length then some (s,(es.drop lo).take n) else none
  | _=>none
 | _=>none
structure Eff where
 v : AV
 new : Option Row:=none
 mod : Option (Nat × Row):=none
 del : Option Nat:=none
 imm : List Nat:=[]
 dels : List Nat:=[]
 mods : List (Nat × Row):=[]
 news : List (Nat × Row):=[]
def elemOK (P : Program) (e : TypeId) : Bool :=
 match P.info? e with
 | some i=>(i.size == (shOf P depth e).width) && (Nat.blt 0 i.size && ((match i.zero with | some z=>z.cells.size == i.size | none=>false) && (match zeroAV P e with | some z=>hass (shOf P depth e).cells z | none=>false)))
 | none=>false
def sizeOK (P : Program) (e : TypeId) (s : Sh) : Bool:=(P.info? e).isSome && P.cellsOf e == s.width
def zeroE (P : Program) (e : TypeId) : AV:=mkAV (shOf P depth e) ((zeroAV P e).getD [])
def focLen (rows : List (Nat × Row)) : AV → Option Nat
 | .own id=>match lookup rows id with
  | some (.foc _ _ _ pre _ post)=>some (pre.length + (post.length + 1))
  | _=>none
 | _=>none
def evLen {ρ : Type} (P : Program) (rows : List (Nat × Row)) (t : TypeId) (x : AV) (y : Eff → Option ρ) : Option ρ :=
 match P.underlying t with
 | some .string=>match x with
  | .str s=>y { v:=.int .i64 s.length }
  | _=>none
 | some (.slice _)=>match focLen rows x with
  | some n=>y { v:=.int .i64 (n : Nat) }
  | none=>match elemsOf rows x with
   | some (_,es)=>y { v:=.int .i64 es.length }
   | none=>none
 | _=>none
def bytesAV (s : List UInt8) : List AV:=s.map fun b=>.int .u8 (b.toNat : Int)
def srcOf (P : Program) (t t' : TypeId) (rows : List (Nat × Row)) (z : AV) : Option (Sh × List AV) :=
 if t' == t then elemsOf rows z else
 match P.underlying t' with
 | some .string=>match z with
  | .str b=>some (.int .u8,bytesAV b)
  | _=>none
 | _=>none
def evBuiltin0 {ρ : Type} (P : Program) (site : Nat) (b : Builtin) (ts : List TypeId) (args : List AV) (rows : List (Nat × Row)) (y : Eff → Option ρ) : Option ρ :=
 match b,ts,args with
 | .len,t :: _,[x]=>evLen P rows t x y
 | .min,_,.int kk x :: rest=>match minInt kk x rest with
  | some n=>y { v:=.int kk n }
  | none=>none
 | .max,_,.int kk x :: rest=>match maxInt kk x rest with
  | some n=>y { v:=.int kk n }
  | none=>none
 | .cap,t :: _,[.own id] =>
  match P.underlying t with
  | some (.slice _) =>
   match lookup rows id with
   | some (.arr _ _ _ es (some sp))=>y { v:=.int .i64 (es.length + sp.length) }
   | _=>none
  | _=>none
 | .copy,[t,t'],[.sub id lo len,z] =>
  if t' != t then none else
  match P.underlying t with
  | some (.slice e) =>
   match lookup rows id with
   | some (.arr false s e' es sp) =>
    match elemsOf rows z with
    | some (s2,es2) =>
     if Sh.beq s s2 && sizeOK P e s then
      bif decide (lo + len ≤ es.length) then
       y { v:=.int .i64 (min len es2.length : Nat),mod:=some (id,.arr false s e' (es.take lo ++ (es2.take (min len es2.length) ++ es.drop (lo + min len es2.length))) sp) }
      else none
     else none
    | none=>none
   | _=>none
  | _=>none
 | .clear,[t],[.sub id lo len] =>
  match P.underlying t with
  | some (.slice e) =>
   match lookup rows id with
   | some (.arr false s e' es sp) =>
    if Sh.beq s (shOf P depth e) && elemOK P e then
     bif decide (lo + len ≤ es.length) then
      y { v:=.undef,mod:=some (id,.arr false s e' (es.take lo ++ (List.replicate len (zeroE P e) ++ es.drop (lo + len))) sp) }
     else none
    else none
   | _=>none
  | _=>none
 | .append,[t,t'],[.sub id lo i,.int k n] =>
  match P.underlying t,P.underlying t' with
  | some (.slice e),some (.int k') =>
   match lookup rows id with
   | some (.arr _ s e' es (some sp)) =>
    if (lo == 0) && (decide (k = k') && ((e == e') && (Sh.beq s (shOf P depth e) && elemOK P e))) then
     bif decide (i ≤ es.length) && (decide (0 ≤ n) && (decide (es.length + sp.length < i + n.toNat) && roomB (i + n.toNat) (P.bytesOf e))) then
      y { v:=.own site,new:=some (.arr false s e (es.take i ++ List.replicate n.toNat (zeroE P e)) none) }
     else none
    else none
   | _=>none
  | _,_=>none
 | .append,[t,t'],[x,z] =>
  match P.underlying t with
  | some (.slice e) =>
   match srcOf P t t' rows z with
   | none=>none
   | some (s2,es2) =>
    match x with
    | .slz s=>if Sh.beq s s2 && (Sh.beq s (shOf P depth e) && elemOK P e) then
      bif roomB es2.length (P.bytesOf e) then y { v:=.own site,new:=some (.arr false s e es2 none) } else none
     else none
    | .own id =>
     match lookup rows id with
     | some (.arr false s e' es _)=>if Sh.beq s s2 && (Sh.beq s (shOf P depth e) && (e == e' && elemOK P e)) then
       bif roomB (es.length + es2.length) (P.bytesOf e) then y { v:=.own site,new:=some (.arr false s e (es ++ es2) none),del:=some id } else none
      else none
     | _=>none
    | _=>none
  | _=>none
 | _,_,_=>none
def elemsK {ρ : Type} (rows : List (Nat × Row)) (v : AV) (k : Sh → List AV → Option ρ) : Option ρ :=
 match v with
 | .slv s es=>k s es
 | .slz s=>k s []
 | .own id=>match lookup rows id with
  | some (.arr _ s _ es _)=>k s es
  | _=>none
 | .sub id lo n=>match lookup rows id with
  | some (.arr _ s _ es _)=>bif decide (lo + n ≤ es.length) then k s ((es.drop lo).take n) else none
  | _=>none
 | _=>none
theorem elemsK_def {ρ : Type} (rows : List (Nat × Row)) (v : AV) (k : Sh → List AV → Option ρ) : elemsK rows v k = match elemsOf rows v with
  | none=>none
  | some (s,es)=>k s es:=by
 cases v with
 | own id =>
  simp only [elemsK,elemsOf]
  cases lookup rows id with
  | none=>rfl
  | some r=>cases r <;> rfl
 | sub id lo n =>
  simp only [elemsK,elemsOf]
  cases lookup rows id with
  | none=>rfl
  | some r =>
   cases r with
   | box i cs=>rfl
   | foc i s e pre cs post=>rfl
   | arr i s e es sp =>
    simp only []
    by_cases h : lo + n ≤ es.length
    ·rw [if_pos h,decide_eq_true h];rfl
    ·rw [if_neg h,decide_eq_false h];rfl
 | _=>rfl
def srcK {ρ : Type} (P : Program) (t t' : TypeId) (rows : List (Nat × Row)) (z : AV) (k : Sh → List AV → Option ρ) : Option ρ :=
 if t' == t then elemsK rows z k else
 match P.underlying t' with
 | some .string=>match z with
  | .str b=>k (.int .u8) (bytesAV b)
  | _=>none
 | _=>none
theorem srcK_def {ρ : Type} (P : Program) (t t' : TypeId) (rows : List (Nat × Row)) (z : AV) (k : Sh → List AV → Option ρ) : srcK P t t' rows z k = match srcOf P t t' rows z with
  | none=>none
  | some (s,es)=>k s es:=by
 unfold srcK srcOf
 split
 ·exact elemsK_def rows z k
 ·split
  ·cases z <;> rfl
  ·rfl
def evLenK {ρ : Type} (P : Program) (rows : List (Nat × Row)) (t : TypeId) (x : AV) (y : Eff → Option ρ) : Option ρ :=
 match P.underlying t with
 | some .string=>match x with
  | .str s=>y { v:=.int .i64 s.length }
  | _=>none
 | some (.slice _)=>match focLen rows x with
  | some n=>y { v:=.int .i64 (n : Nat) }
  | none=>elemsK rows x fun _ es=>y { v:=.int .i64 es.length }
 | _=>none
theorem evLenK_eq {ρ : Type} (P : Program) (rows : List (Nat × Row)) (t : TypeId) (x : AV) (y : Eff → Option ρ) : evLenK P rows t x y = evLen P rows t x y:=by
 unfold evLenK evLen
 simp only [elemsK_def]
 repeat' split
 all_goals first | rfl | simp_all
def evBuiltin {ρ : Type} (P : Program) (site : Nat) (b : Builtin) (ts : List TypeId) (args : List AV) (rows : List (Nat × Row)) (y : Eff → Option ρ) : Option ρ :=
 match b,ts,args with
 | .len,t :: _,[x]=>evLenK P rows t x y
 | .min,_,.int kk x :: rest=>match minInt kk x rest with
  | some n=>y { v:=.int kk n }
  | none=>none
 | .max,_,.int kk x :: rest=>match maxInt kk x rest with
  | some n=>y { v:=.int kk n }
  | none=>none
 | .cap,t :: _,[.own id] =>
  match P.underlying t with
  | some (.slice _) =>
   match lookup rows id with
   | some (.arr _ _ _ es (some sp))=>y { v:=.int .i64 (es.length + sp.length) }
   | _=>none
  | _=>none
 | .copy,[t,t'],[.sub id lo len,z] =>
  if t' != t then none else
  match P.underlying t with
  | some (.slice e) =>
   match lookup rows id with
   | some (.arr false s e' es sp) =>
    elemsK rows z fun s2 es2 =>
     if Sh.beq s s2 && sizeOK P e s then
      bif decide (lo + len ≤ es.length) then
       y { v:=.int .i64 (min len es2.length : Nat),mod:=some (id,.arr false s e' (es.take lo ++ (es2.take (min len es2.length) ++ es.drop (lo + min len es2.length))) sp) }
      else none
     else none
   | _=>none
  | _=>none
 | .clear,[t],[.sub id lo len] =>
  match P.underlying t with
  | some (.slice e) =>
   match lookup rows id with
   | some (.arr false s e' es sp) =>
    if Sh.beq s (shOf P depth e) && elemOK P e then
     bif decide (lo + len ≤ es.length) then
      y { v:=.undef,mod:=some (id,.arr false s e' (es.take lo ++ (List.replicate len (zeroE P e) ++ es.drop (lo + len))) sp) }
     else none
    else none
   | _=>none
  | _=>none
 | .append,[t,t'],[.sub id lo i,.int k n] =>
  match P.underlying t,P.underlying t' with
  | some (.slice e),some (.int k') =>
   match lookup rows id with
   | some (.arr _ s e' es (some sp)) =>
    if (lo == 0) && (decide (k = k') && ((e == e') && (Sh.beq s (shOf P depth e) && elemOK P e))) then
     bif decide (i ≤ es.length) && (decide (0 ≤ n) && (decide (es.length + sp.length < i + n.toNat) && roomB (i + n.toNat) (P.bytesOf e))) then
      y { v:=.own site,new:=some (.arr false s e (es.take i ++ List.replicate n.toNat (zeroE P e)) none) }
     else none
    else none
   | _=>none
  | _,_=>none
 | .append,[t,t'],[x,z] =>
  match P.underlying t with
  | some (.slice e) =>
   srcK P t t' rows z fun s2 es2 =>
    match x with
    | .slz s=>if Sh.beq s s2 && (Sh.beq s (shOf P depth e) && elemOK P e) then
      bif roomB es2.length (P.bytesOf e) then y { v:=.own site,new:=some (.arr false s e es2 none) } else none
     else none
    | .own id =>
     match lookup rows id with
     | some (.arr false s e' es _)=>if Sh.beq s s2 && (Sh.beq s (shOf P depth e) && (e == e' && elemOK P e)) then
       bif roomB (es.length + es2.length) (P.bytesOf e) then y { v:=.own site,new:=some (.arr false s e (es ++ es2) none),del:=some id } else none
      else none
     | _=>none
    | _=>none
  | _=>none
 | _,_,_=>none
theorem evBuiltin_eq {ρ : Type} (P : Program) (site : Nat) (b : Builtin) (ts : List TypeId) (args : List AV) (rows : List (Nat × Row)) (y : Eff → Option ρ) : evBuiltin P site b ts args rows y = evBuiltin0 P site b ts args rows y:=by
 unfold evBuiltin evBuiltin0
 simp only [elemsK_def,srcK_def,evLenK_eq]
 repeat' split
 all_goals first | rfl | simp_all
def evLoad {ρ : Type} (P : Program) (t : TypeId) (cs : List AV) (y : AV → Option ρ) : Option ρ :=
 if isAggT P t then
  (if Nat.ble (P.cellsOf t) cs.length then y (.agg (cs.take (P.cellsOf t))) else none)
 else if (P.underlying t).isSome then
  match cs with
  | c :: _=>y c
  | []=>none
 else none
def subOf (x : AV) (mx : Option Operand) (rows : List (Nat × Row)) : Option (Nat × Row) :=
 match x,mx with
 | .own id,none =>
  match lookup rows id with
  | some r=>some (id,r)
  | none=>none
 | _,_=>none
def entersB (P : Program) (f : FuncId) : Bool :=
 match P.funcs[f]? with
 | some fn => !(fn.name == "runtime.NumGoroutine")
 | none=>false
def hasBody (P : Program) (f : FuncId) : Bool :=
 match P.funcs[f]? with
 | some fn=>fn.body.isSome
 | none=>false
def newId (site j : Nat) : Nat:=site + 4294967296 * (j + 1)
def toP (ids : List Nat) (i : Nat) : Option Nat:=(idx ids i).map (PID + ·)
def back (site : Nat) (ids : List Nat) (n : Nat) (i : Nat) : Option Nat :=
 if Nat.blt i PID then none else
 if Nat.blt i RID then ids[i - PID]? else
 if Nat.blt (i - RID) n then some (newId site (i - RID)) else none
def delsOf : List Nat → List (Option Row) → List Nat
 | i :: is,none :: rs=>i :: delsOf is rs
 | _ :: is,some _ :: rs=>delsOf is rs
 | _,_=>[]
def modsOf (m : Nat → Option Nat) : List Nat → List (Option Row) → List (Nat × Row)
 | i :: is,some r :: rs=>(i,r.ren m) :: modsOf m is rs
 | _ :: is,none :: rs=>modsOf m is rs
 | _,_=>[]
def newsOf (m : Nat → Option Nat) (site : Nat) : Nat → List Row → List (Nat × Row)
 | _,[]=>[]
 | j,r :: rs=>(newId site j,r.ren m) :: newsOf m site (j + 1) rs
def evX {ρ : Type} (site : Nat) (F : SummX) (avs : List AV) (rows : List (Nat × Row)) (y : Eff → Option ρ) : Option ρ :=
 match purL (opn1 rows depth) avs with
 | none=>none
 | some p =>
  match rowsAt rows (reach rows depth p.1 []) with
  | none=>none
  | some q =>
   if nodupB (reach rows depth p.1 []) && Nat.ble (reach rows depth p.1 []).length 1000000 && (p.2 ++ q.2).all (fun i=>!(reach rows depth p.1 []).contains i) then
    F ρ (AV.rens (toP (reach rows depth p.1 [])) p.1) (q.1.map (Row.ren (toP (reach rows depth p.1 [])))) fun v prow nrow =>
     if prow.length == (reach rows depth p.1 []).length then
      y { v:=v.ren (back site (reach rows depth p.1 []) nrow.length),imm:=p.2 ++ q.2,dels:=delsOf (reach rows depth p.1 []) prow,mods:=modsOf (back site (reach rows depth p.1 []) nrow.length) (reach rows depth p.1 []) prow,news:=newsOf (back site (reach rows depth p.1 []) nrow.length) site 0 nrow }
     else none
   else none
def xOf (Γ : Env) (f : Operand) (g : Nat) : Option SummX :=
 match f with
 | .func _=>findX Γ g
 | _=>if Γ.tmpX then findX Γ g else none
def byteT (P : Program) (e : TypeId) : Bool :=
 match P.underlying e with
 | some (.int .u8)=>true
 | _=>false
def strAV (es : List AV) : List UInt8:=es.map fun e=>UInt8.ofNat e.toInt.toNat
def runeT (P : Program) (e : TypeId) : Bool :=
 match P.underlying e with
 | some (.int .i32)=>true
 | _=>false
def runesI (s : List UInt8) : List Int:=(Conv.runesFrom ⟨s.toArray⟩ s.length 0 #[]).toList.map fun v=>match v with
 | .int _ n=>n
 | _=>0
def runesAV (s : List UInt8) : List AV:=(runesI s).map (AV.int .i32)
def runeStr (es : List AV) : List UInt8:=((es.map AV.toInt).foldl (fun r n=>r ++ Utf8.encode n) ByteArray.empty).data.toList
def focOf (rows : List (Nat × Row)) (id : Nat) : Option (Sh × TypeId × List AV × List AV × List AV) :=
 match lookup rows id with
 | some (.foc false s e pre cs post)=>some (s,e,pre,cs,post)
 | _=>none
def encA (n : Int) : List UInt8:=(Utf8.encode n).data.toList
def decA (s : List UInt8) (p : Nat) : Nat × Nat:=Utf8.decode ⟨s.toArray⟩ p
def keyB : AV → AV → Bool
 | .int k a,.int k' b=>decide (k = k') && (a == b)
 | .str a,.str b=>a == b
 | _,_=>false
def mpKey : AV → AV
 | .tup [k,_]=>k
 | _=>.unk
def mpVal : AV → AV
 | .tup [_,v]=>v
 | _=>.unk
def mpEnt (sk sv : Sh) : AV → Bool
 | .tup [k,v]=>hasSh sk k && hasSh sv v
 | _=>false
def mpOK (sk sv : Sh) (es : List AV) : Bool:=es.all (mpEnt sk sv)
def mpHas (k : AV) : List AV → Bool
 | []=>false
 | e :: es=>keyB k (mpKey e) || mpHas k es
def mpIdx (k : AV) : List AV → Nat
 | []=>0
 | e :: es=>bif keyB k (mpKey e) then 0 else mpIdx k es + 1
def mpGet (k : AV) : List AV → AV
 | []=>.unk
 | e :: es=>bif keyB k (mpKey e) then mpVal e else mpGet k es
def mpSet (v : AV) : List AV → Nat → List AV
 | [],_=>[]
 | e :: es,0=>.tup [mpKey e,v] :: es
 | e :: es,n + 1=>e :: mpSet v es n
def mpPut (k v : AV) (es : List AV) : List AV:=bif mpHas k es then mpSet v es (mpIdx k es) else es ++ [.tup [k,v]]
def keyT (P : Program) (kt : TypeId) : Bool :=
 match P.underlying kt with
 | some (.int _)=>true
 | some .string=>true
 | _=>false
def etaV (s : Sh) (v : AV) : AV:=mkAV s (etaCells s v)
def zeroVal (P : Program) (t : TypeId) : Option AV :=
 match P.info? t with
 | some i=>i.zero.map (ofVal (shOf P depth t))
 | none=>none
def zeroNil (P : Program) (t : TypeId) : Bool :=
 match P.info? t with
 | some i=>match i.zero with
  | some (.slice none 0 0)=>true
  | _=>false
 | none=>false
def zeroAt (P : Program) (b : Bool) (t : TypeId) : Option AV:=if b && zeroNil P t then some .nsl else zeroVal P t
def mapOf (P : Program) (rows : List (Nat × Row)) (t : TypeId) (x : AV) : Option (TypeId × TypeId × Nat × Bool × List AV) :=
 match P.underlying t,x with
 | some (.map kt et),.own id =>
  match lookup rows id with
  | some (.box im [.mpv es])=>if keyT P kt then some (kt,et,id,im,es) else none
  | _=>none
 | _,_=>none
def evOp {ρ : Type} (P : Program) (Γ : Env) (site : Nat) (o : Oper) (tm : List AV) (rows : List (Nat × Row)) (y : Eff → Option ρ) : Option ρ :=
 match o.op with
 | .move x | .assign x=>y { v:=valT P tm o.type x }
 | .pick c a b =>
  match val tm c with
  | .bool t=>bif t then y { v:=valT P tm o.type a } else y { v:=valT P tm o.type b }
  | _=>none
 | .alloc t =>
  match zeroAV P t with
  | some cs=>y { v:=.ptr site 0,new:=some (.box false cs) }
  | none=>none
 | .box t x =>
  if (valT P tm t x).laidB then y { v:=.ptr site 0,new:=some (.box false (valT P tm t x).cells) } else none
 | .build t parts =>
  match zeroAV P t with
  | some cs =>
   if partsKnown P t then
    match fillA (placeOf P t) cs (parts.toList.map fun p=>(p.1,valT P tm (partTypes P t p.1) p.2)) with
    | some cs'=>y { v:=.agg cs' }
    | none=>none
   else none
  | none=>none
 | .buildSlice t len parts =>
  match P.underlying t with
  | some (.slice e) =>
   if len = 0 then (if (P.info? e).isSome && parts.size == 0 then y { v:=.slz (shOf P depth e) } else none) else
   if !elemOK P e || (Nat.blt 1000 len || Nat.blt 1000 (P.cellsOf e)) then none else
   match zeroAV P e with
   | some z =>
    match purL (pur1 rows depth) (parts.toList.map fun p=>valT P tm e p.2) with
    | some q =>
     match fillE (shOf P depth e) (List.replicate len (mkAV (shOf P depth e) z)) ((parts.toList.map fun p=>p.1).zip q.1) with
     | some es=>if es.all (hasSh (shOf P depth e)) then y { v:=.own site,new:=some (.arr false (shOf P depth e) e es none),imm:=q.2 } else none
     | none=>none
    | none=>none
   | none=>none
  | _=>none
 | .load t a =>
  match val tm a with
  | .ptr id off=>match lookup rows id with
   | some (.box _ cs)=>evLoad P t (cs.drop off) fun v=>y { v }
   | _=>none
  | .ref cs=>evLoad P t cs fun v=>y { v }
  | .eref s es i off=>evLoad P t ((etaCells s (es.getD i .unk)).drop off) fun v=>y { v }
  | .eptr id i off=>match lookup rows id with
   | some (.arr _ s _ es _) =>
    bif decide (i < es.length) then evLoad P t ((etaCells s (es.getD i .unk)).drop off) fun v=>y { v } else none
   | some (.foc _ s _ pre cs post) =>
    bif decide (i = pre.length) then evLoad P t (cs.drop off) fun v=>y { v }
    else if Γ.hole then none else bif decide (i < pre.length) then evLoad P t ((etaCells s (pre.getD i .unk)).drop off) fun v=>y { v }
    else bif decide (i - (pre.length + 1) < post.length) then evLoad P t ((etaCells s (post.getD (i - (pre.length + 1)) .unk)).drop off) fun v=>y { v } else none
   | _=>none
  | _=>none
 | .store t a x =>
  if (valT P tm t x).laidB && ((valT P tm t x).cells.length == P.cellsOf t && P.cellsOf t != 0) then
   match val tm a with
   | .ptr id off=>match lookup rows id with
    | some (.box false cs) =>
     if Nat.ble (off + (valT P tm t x).cells.length) cs.length then
      y { v:=.undef,mod:=some (id,.box false (splice cs off (valT P tm t x).cells)) }
     else none
    | _=>none
   | .eptr id i off =>
    match focOf rows id with
    | some (s,e,pre,cs,post) =>
     bif decide (i = pre.length) then
      (if Nat.ble (off + (valT P tm t x).cells.length) cs.length then y { v:=.undef,mod:=some (id,.foc false s e pre (splice cs off (valT P tm t x).cells) post) } else none)
     else
     if Γ.hole then none else
     match pur1 rows depth (valT P tm t x) with
     | some p =>
      if !p.2.contains id && (p.1.laidB && (p.1.cells.length == P.cellsOf t && Nat.ble (off + P.cellsOf t) s.width)) then
       bif decide (i < pre.length) then
        if hasSh s (mkAV s (splice (etaCells s (pre.getD i .unk)) off p.1.cells)) then
         y { v:=.undef,mod:=some (id,.foc false s e (pre.set i (mkAV s (splice (etaCells s (pre.getD i .unk)) off p.1.cells))) cs post),imm:=p.2 }
        else none
       else bif decide (i - (pre.length + 1) < post.length) then
        if hasSh s (mkAV s (splice (etaCells s (post.getD (i - (pre.length + 1)) .unk)) off p.1.cells)) then
         y { v:=.undef,mod:=some (id,.foc false s e pre cs (post.set (i - (pre.length + 1)) (mkAV s (splice (etaCells s (post.getD (i - (pre.length + 1)) .unk)) off p.1.cells)))),imm:=p.2 }
        else none
       else none
      else none
     | none=>none
    | none =>
    match pur1 rows depth (valT P tm t x) with
    | some p =>
     match lookup rows id with
     | some (.arr false s e es sp) =>
      if !p.2.contains id && (p.1.laidB && (p.1.cells.length == P.cellsOf t && (Nat.ble (off + P.cellsOf t) s.width && hasSh s (mkAV s (splice (etaCells s (es.getD i .unk)) off p.1.cells))))) then
       bif decide (i < es.length) then
        y { v:=.undef,mod:=some (id,.arr false s e (es.set i (mkAV s (splice (etaCells s (es.getD i .unk)) off p.1.cells))) sp),imm:=p.2 }
       else none
      else none
     | _=>none
    | none=>none
   | _=>none
  else none
 | .nilCheck x =>
  match val tm x with
  | .ptr id off=>y { v:=.ptr id off }
  | .eptr id i off=>y { v:=.eptr id i off }
  | .ref cs=>y { v:=.ref cs }
  | .eref s es i off=>y { v:=.eref s es i off }
  | .fn f cs=>y { v:=.fn f cs }
  | _=>none
 | .binOp op t x z _=>if isNilC z then evNil P op t (valT P tm t x) (fun v=>y { v }) else evBin P op t (valT P tm t x) (valT P tm t z) fun v=>y { v }
 | .unOp op t x =>
  match op,valT P tm t x with
  | .neg,.int kk n=>y { v:=.int kk (kk.wrap (0 - n)) }
  | .not,.bool b=>y { v:=.bool !b }
  | _,_=>none
 | .convert src dst x =>
  match P.underlying src,P.underlying dst,valT P tm src x with
  | some (.int _),some (.int kk),.int _ n=>y { v:=.int kk (kk.wrap n) }
  | some .string,some .string,.str s=>y { v:=.str s }
  | some (.int _),some .string,.int _ n=>y { v:=.str (encA n) }
  | some (.slice _),some (.slice e),.own id =>
   if Γ.conv && (src == dst && byteT P e) then
    match lookup rows id with
    | some (.arr false s e' (x0 :: es) sp)=>if Sh.beq s (.int .u8) then y { v:=.own id,mod:=some (id,.arr false s e' (x0 :: es) sp) } else none
    | _=>none
   else none
  | some .string,some (.slice e),.str s=>if Γ.conv && (byteT P e && elemOK P e) then bif lenB s.length then y { v:=.own site,new:=some (.arr false (.int .u8) e (bytesAV s) none) } else none
   else if Γ.conv && (runeT P e && elemOK P e) then bif decide (s.length ≤ 1000000) then y { v:=.own site,new:=some (.arr false (.int .i32) e (runesAV s) none) } else none else none
  | some (.slice e),some .string,v=>if Γ.conv && byteT P e then elemsK rows v fun s es=>if Sh.beq s (.int .u8) then y { v:=.str (strAV es) } else none
   else if Γ.conv && runeT P e then elemsK rows v fun s es=>if Sh.beq s (.int .i32) then y { v:=.str (runeStr es) } else none else none
  | _,_,_=>none
 | .makeFunc (.func f) first captured =>
  if first.size = 0 then y { v:=.fn f (captured.toList.map (val tm)) } else none
 | .slice t x lo hi mx =>
  if optIsInt (lo.map (val tm)) && optIsInt (hi.map (val tm)) then
   match P.underlying t,val tm x with
   | some .string,.str s =>
    if mx.isNone then
     bif slb (optInt (lo.map (val tm)) 0) (optInt (hi.map (val tm)) s.length) s.length then
      y { v:=.str ((s.drop (optInt (lo.map (val tm)) 0).toNat).take ((optInt (hi.map (val tm)) s.length).toNat - (optInt (lo.map (val tm)) 0).toNat)) }
     else none
    else none
   | some (.array n e),x' =>
    if lo.isNone && (hi.isNone && (mx.isNone && ((P.info? e).isSome && Nat.ble n 1000000))) then
     match pur1 rows depth x' with
     | some (.ref cs,ids)=>if Nat.ble n cs.length && (cs.take n).all (has1 (shOf P depth e)) then y { v:=.slv (shOf P depth e) (cs.take n),imm:=ids } else none
     | _=>none
    else none
   | some (.slice e),x' =>
    match subOf x' mx rows with
    | some (id,.arr im s e' es sp) =>
     if !sizeOK P e s then none else
     if Γ.ext.contains site && lo.isNone then
      match sp,im with
      | some l,false =>
       bif decide ((es.length : Int) ≤ optInt (hi.map (val tm)) es.length) && decide (optInt (hi.map (val tm)) es.length ≤ (es.length : Int) + l.length) then
        y { v:=.own site,new:=some (.arr false s e' (es ++ l.take ((optInt (hi.map (val tm)) es.length).toNat - es.length)) (some (l.drop ((optInt (hi.map (val tm)) es.length).toNat - es.length)))),del:=some id }
       else none
      | _,_=>none
     else if Γ.ext.contains site then
      match im with
      | false =>
       if hi.isNone then
        bif decide (0 ≤ optInt (lo.map (val tm)) 0) && decide (optInt (lo.map (val tm)) 0 ≤ (es.length : Int)) then
         y { v:=.own site,new:=some (.arr false s e' (es.drop (optInt (lo.map (val tm)) 0).toNat) sp),del:=some id }
        else none
       else none
      | true=>none
     else
     bif slb (optInt (lo.map (val tm)) 0) (optInt (hi.map (val tm)) es.length) es.length then
      y { v:=.sub id (optInt (lo.map (val tm)) 0).toNat ((optInt (hi.map (val tm)) es.length).toNat - (optInt (lo.map (val tm)) 0).toNat) }
     else none
    | some _=>none
    | none =>
    match pur1 rows depth x' with
    | some (.slv s es,ids) =>
     if !sizeOK P e s then none else
     match mx with
     | none =>
      bif slb (optInt (lo.map (val tm)) 0) (optInt (hi.map (val tm)) es.length) es.length then
       y { v:=.slv s ((es.drop (optInt (lo.map (val tm)) 0).toNat).take ((optInt (hi.map (val tm)) es.length).toNat - (optInt (lo.map (val tm)) 0).toNat)),imm:=ids }
      else none
     | some (.tmp m) =>
      match lo,hi.map (val tm),val tm (.tmp m) with
      | none,some (.int _ h),.int _ mm=>bif (mm == h) && (decide (0 ≤ h) && decide (h ≤ es.length)) then y { v:=.slv s (es.take h.toNat),imm:=ids } else none
      | _,_,_=>none
     | some m =>
      match val tm m with
      | .int _ mm=>if mm == 0 && ((optInt (lo.map (val tm)) 0 == 0) && (optInt (hi.map (val tm)) 1 == 0)) then y { v:=.slz s } else none
      | _=>none
    | _=>none
   | _,_=>none
  else none
 | .fieldAddr t x f =>
  match fieldOf P t f with
  | some fl =>
   if P.cellsOf fl.type == 0 then none else
   match val tm x with
   | .ptr id off=>y { v:=.ptr id (off + fl.offset) }
   | .eptr id i off=>y { v:=.eptr id i (off + fl.offset) }
   | .eref s es i off=>y { v:=.eref s es i (off + fl.offset) }
   | .ref cs=>y { v:=.ref (cs.drop fl.offset) }
   | _=>none
  | none=>none
 | .field t x f =>
  match fieldOf P t f with
  | some fl =>
   match valT P tm t x with
   | .agg cs =>
    if isAggT P fl.type then
     (if Nat.ble (fl.offset + P.cellsOf fl.type) cs.length then y { v:=.agg ((cs.drop fl.offset).take (P.cellsOf fl.type)) } else none)
    else match cs[fl.offset]? with
     | some v=>if (P.underlying fl.type).isSome then y { v } else none
     | none=>none
   | _=>none
  | none=>none
 | .indexAddr t x i =>
  match val tm i with
  | .int _ n =>
   match P.underlying t,val tm x with
   | some (.slice e),.slv s es=>if sizeOK P e s then (bif inb n es.length then y { v:=.eref s es n.toNat 0 } else none) else none
   | some (.slice e),.own id =>
    match lookup rows id with
    | some (.arr _ s _ es _)=>if sizeOK P e s then (bif inb n es.length then y { v:=.eptr id n.toNat 0 } else none) else none
    | some (.foc _ s _ pre _ post)=>if sizeOK P e s then (bif inb n (pre.length + (post.length + 1)) then y { v:=.eptr id n.toNat 0 } else none) else none
    | _=>none
   | some (.slice e),.sub id lo len =>
    match lookup rows id with
    | some (.arr _ s _ es _)=>if sizeOK P e s then (bif inb n len && decide (lo + len ≤ es.length) then y { v:=.eptr id (lo + n.toNat) 0 } else none) else none
    | _=>none
   | some (.array len e),.ptr id off=>if (P.info? e).isSome then (bif inb n len then y { v:=.ptr id (off + n.toNat * P.cellsOf e) } else none) else none
   | some (.array len e),.ref cs=>if (P.info? e).isSome then (bif inb n len then y { v:=.ref (cs.drop (n.toNat * P.cellsOf e)) } else none) else none
   | _,_=>none
  | _=>none
 | .index t x i =>
  match val tm i with
  | .int _ n =>
   match P.underlying t,valT P tm t x with
   | some .string,.str s=>bif inb n s.length then y { v:=.int .u8 ((s.getD n.toNat 0).toNat) } else none
   | some (.array len e),.agg cs =>
    if isAggT P e then none else
    if (P.underlying e).isSome && ((P.cellsOf e == 1) && ((len == cs.length) && cs.all (has1 (shOf P depth e)))) then
     bif inb n len then y { v:=eta1 (shOf P depth e) (cs.getD n.toNat .unk) } else none
    else none
   | _,_=>none
  | _=>none
 | .extract x i =>
  match val tm x with
  | .tup vs=>match vs[i]? with
   | some v=>y { v }
   | none=>none
  | _=>none
 | .range t x =>
  match P.underlying t,valT P tm t x with
  | some .string,.str s=>y { v:=.eptr site 0 0,new:=some (.box false [.tup [.str s,.int .i64 0]]) }
  | _,_=>none
 | .next x true =>
  match val tm x with
  | .eptr id 0 0=>match lookup rows id with
   | some (.box false [.tup [.str s,.int .i64 p]]) =>
    bif decide (p < (s.length : Int)) then y { v:=.tup [.bool true,.int .i64 p,.int .i32 (decA s p.toNat).1],mod:=some (id,.box false [.tup [.str s,.int .i64 (p + (decA s p.toNat).2)]]) }
    else y { v:=.tup [.bool false] }
   | _=>none
  | _=>none
 | .makeInterface t x =>
  match P.underlying t with
  | some (.pointer _) =>
   match pur1 rows depth (valT P tm t x) with
   | some (.ref cs,ids)=>y { v:=.ifr t cs,imm:=ids }
   | _=>none
  | _=>none
 | .makeSlice t l c =>
  match P.underlying t,val tm l,val tm c with
  | some (.slice e),.int _ n,.int _ m =>
   if elemOK P e then
    bif (n == m) && (decide (0 ≤ n) && roomB n.toNat (P.bytesOf e)) then y { v:=.own site,new:=some (.arr false (shOf P depth e) e (List.replicate n.toNat (zeroE P e)) none) } else none
   else none
  | _,_,_=>none
 | .makeMap t none =>
  match P.underlying t with
  | some (.map _ _)=>y { v:=.own site,new:=some (.box false [.mpv []]) }
  | _=>none
 | .lookup t x k ok =>
  match mapOf P rows t (val tm x) with
  | some (kt,et,_,_,es) =>
   if hasSh (shOf P depth kt) (valT P tm kt k) then
    (valT P tm kt k).force fun key =>
    bif mpOK (shOf P depth kt) (shOf P depth et) es then
     bif mpHas key es then
      (if ok then y { v:=.tup [etaV (shOf P depth et) (mpGet key es),.bool true] } else y { v:=etaV (shOf P depth et) (mpGet key es) })
     else match zeroAt P (Γ.ext.contains site) et with
      | some z=>(if ok then y { v:=.tup [z,.bool false] } else y { v:=z })
      | none=>none
    else none
   else none
  | none=>none
 | .mapUpdate t m k x =>
  match mapOf P rows t (val tm m) with
  | some (kt,et,id,false,es) =>
   if hasSh (shOf P depth kt) (valT P tm kt k) then
    match pur1 rows depth (valT P tm et x) with
    | some p =>
     if !p.2.contains id && hasSh (shOf P depth et) p.1 then
      (valT P tm kt k).force fun key=>p.1.force fun v =>
      bif mpOK (shOf P depth kt) (shOf P depth et) es then y { v:=.undef,mod:=some (id,.box false [.mpv (mpPut key v es)]),imm:=p.2 } else none
     else none
    | none=>none
   else none
  | _=>none
 | .mapEntry t m k =>
  match mapOf P rows t (val tm m) with
  | some (kt,et,id,false,es) =>
   if hasSh (shOf P depth kt) (valT P tm kt k) then
    (valT P tm kt k).force fun key =>
    bif mpOK (shOf P depth kt) (shOf P depth et) es then
     bif mpHas key es then
      y { v:=.tup [etaV (shOf P depth et) (mpGet key es),.int .i64 (mpIdx key es : Nat)],mod:=some (id,.box false [.mpv es]) }
     else match zeroVal P et with
      | some z=>if hasSh (shOf P depth et) z && z.flat then z.force fun z=>y { v:=.tup [z,.int .i64 (es.length : Nat)],mod:=some (id,.box false [.mpv (es ++ [.tup [key,z]])]) } else none
      | none=>none
    else none
   else none
  | _=>none
 | .entryStore t m s x =>
  match mapOf P rows t (val tm m),val tm s with
  | some (kt,et,id,false,es),.int _ n =>
   match pur1 rows depth (valT P tm et x) with
   | some p =>
    if !p.2.contains id && hasSh (shOf P depth et) p.1 then
     p.1.force fun v =>
     bif mpOK (shOf P depth kt) (shOf P depth et) es && (decide (0 ≤ n) && decide (n < (es.length : Int))) then y { v:=.undef,mod:=some (id,.box false [.mpv (mpSet v es n.toNat)]),imm:=p.2 } else none
    else none
   | none=>none
  | _,_=>none
 | .call { callee:=.builtin b,args,argTypes }=>evBuiltin P site b argTypes.toList (valsT P tm argTypes.toList args.toList) rows y
 | .call { callee:=.value f,args,argTypes } =>
  match val tm f with
  | .fn g caps =>
   match xOf Γ f g with
   | some F=>if entersB P g then evX site F (valsT P tm argTypes.toList args.toList ++ caps) rows y else none
   | none =>
   match purL (pur1 rows depth) (valsT P tm argTypes.toList args.toList ++ caps) with
   | some p =>
    match find Γ g with
    | some F=>if entersB P g then F ρ (AV.nzs p.1) (fun v=>y { v,imm:=if v.flat then [] else p.2 }) else none
    | none=>none
   | none=>none
  | .own id =>
   match Γ.yld with
   | some (key,np,F) =>
    match lookup rows id with
    | some (.box false (.tup [.int .i64 key'] :: _)) =>
     if key' == key && args.size == np then evX site F (.own id :: valsT P tm argTypes.toList args.toList) rows y else none
    | _=>none
   | none=>none
  | _=>none
 | _=>none
def applyRows (site : Nat) (e : Eff) (rows : List (Nat × Row)) : List (Nat × Row) :=
 let r1:=match e.del with
  | some i=>delRow rows i
  | none=>rows
 let r2:=match e.mod with
  | some p=>setRow r1 p.1 p.2
  | none=>r1
 let r3:=match e.imm with
  | []=>r2
  | ids=>setImm ids r2
 let r4:=match e.new with
  | some r=>setRow r3 site r
  | none=>r3
 e.news.foldl (fun rs p=>setRow rs p.1 p.2) (e.mods.foldl (fun rs p=>setRow rs p.1 p.2) (e.dels.foldl delRow r4))
def putTm (tm : List AV) (dst : Option Tmp) (v : AV) : List AV :=
 match dst with
 | some d=>tm.set d v
 | none=>tm
def apply (site : Nat) (dst : Option Tmp) (e : Eff) (st : St) : St :=
 ⟨putTm st.tm dst e.v,applyRows site e st.rows,e.news.map (·.1) ++ (match e.new with | some _=>site :: st.used | none=>st.used)⟩
def freshB (site : Nat) (e : Eff) (used : List Nat) : Bool :=
 (match e.new with
 | some _=>!used.contains site && Nat.blt site PID
 | none=>true) && (e.news.all fun p=>!used.contains p.1 && Nat.blt p.1 PID)
def isGuard (ops : List Oper) (i : Nat) : Bool:=ops.any fun o=>match o.guard with
 | some (j,_)=>j == i
 | none=>false
def decideAt {ρ : Type} (ops : List Oper) (i : Nat) (dst : Option Tmp) (st : St) (k : St → Option ρ) : Option ρ :=
 if isGuard ops i then
  match dst with
  | some d =>
   match st.tm.getD d .unk with
   | .bool b=>bif b then k ⟨st.tm.set d (.bool true),st.rows,st.used⟩ else k ⟨st.tm.set d (.bool false),st.rows,st.used⟩
   | _=>none
  | none=>none
 else k st
def guardAt (ops : List Oper) (tm : List AV) (j : Nat) : AV :=
 match ops[j]? with
 | some o=>match o.dst with
  | some d=>tm.getD d .unk
  | none=>.unk
 | none=>.unk
def union1 (l : List Nat) (x : Nat) : List Nat:=if l.contains x then l else x :: l
def ancFrom : List Oper → List (List Nat) → List (List Nat)
 | [],acc=>acc
 | o :: os,acc=>ancFrom os (acc ++ [o.after.toList.foldl (fun s e=>if Region.binds .any e then (acc.getD e.on []).foldl union1 (union1 s e.on) else s) []])
def ancTab (ops : List Oper) : List (List Nat):=ancFrom ops []
def ofReg (rid i : Nat) : Bool:=Nat.blt i PID && (i % 4294967296) / 64 == rid
def visible (rid : Nat) (bef : List Nat) : List (Nat × Row) → List (Nat × Row)
 | []=>[]
 | (i,r) :: rest=>if !ofReg rid i || bef.contains (i % 64) then (i,r) :: visible rid bef rest else visible rid bef rest
def evOps {ρ : Type} (P : Program) (Γ : Env) (rid : Nat) (ops : List Oper) (bef : Option (List (List Nat))) (k : St → Option ρ) : Nat → List Oper → St → Option ρ
 | _,[],st=>k st
 | i,o :: rest,st =>
  match o.guard with
  | none=>evOp P Γ (rid * 64 + i) o st.tm (match bef with | none=>st.rows | some l=>visible rid (l.getD i []) st.rows) fun e =>
    if freshB (rid * 64 + i) e st.used then (apply (rid * 64 + i) o.dst e st).force fun st1=>decideAt ops i o.dst st1 (evOps P Γ rid ops bef k (i + 1) rest) else none
  | some (j,want) =>
   match guardAt ops st.tm j with
   | .bool b=>bif b == want then
     evOp P Γ (rid * 64 + i) o st.tm (match bef with | none=>st.rows | some l=>visible rid (l.getD i []) st.rows) fun e =>
      if freshB (rid * 64 + i) e st.used then (apply (rid * 64 + i) o.dst e st).force fun st1=>decideAt ops i o.dst st1 (evOps P Γ rid ops bef k (i + 1) rest) else none
    else evOps P Γ rid ops bef k (i + 1) rest ⟨putTm st.tm o.dst .undef,st.rows,st.used⟩
   | .undef=>evOps P Γ rid ops bef k (i + 1) rest ⟨putTm st.tm o.dst .undef,st.rows,st.used⟩
   | _=>none
def changes (Γ : Env) : Op → Bool
 | .store ..=>true
 | .next ..=>true
 | .mapUpdate .. | .mapEntry .. | .entryStore ..=>true
 | .slice ..=>!Γ.ext.isEmpty
 | .convert src dst _=>Γ.conv && src == dst
 | .call { callee:=.builtin .append,.. }=>true
 | .call { callee:=.builtin .copy,.. }=>true
 | .call { callee:=.builtin .clear,.. }=>true
 | .call { callee:=.value (.func g),.. }=>(findX Γ g).isSome
 | .call { callee:=.value _,.. }=>Γ.tmpX || Γ.yld.isSome
 | _=>false
def isConst : Operand → Bool
 | .const _=>true
 | _=>false
def touches (Γ : Env) : Op → Bool
 | .convert ..=>Γ.conv
 | .move _ | .assign _ | .pick .. | .build .. | .nilCheck _ | .binOp .. | .unOp .. | .makeFunc .. | .fieldAddr .. | .field .. | .index .. | .extract ..=>false
 | .call { callee:=.value (.func g),args,.. }=>(findX Γ g).isSome || !args.all isConst
 | _=>true
def fixedB (ops : Array Oper) (t : Nat) : Bool:=ops.toList.all fun o=>match o.dst with
 | some d=>!(d == t)
 | none=>true
def sepT (ops : Array Oper) (tm : List AV) (s t : Nat) : Bool:=fixedB ops s && (fixedB ops t && (match tm.getD s .unk,tm.getD t .unk with
 | .ptr i _,.ptr j _=>!(i == j)
 | _,_=>false))
def isPtr : AV → Bool
 | .ptr _ _=>true
 | _=>false
def bxB : AV → Bool
 | .ptr _ _=>true
 | .unk=>true
 | .undef=>true
 | _=>false
def boxB (ops : Array Oper) (tm : List AV) (s : Nat) : Bool:=bxB (tm.getD s .unk) && ops.toList.all fun o=>match o.dst with
 | some d=>!(d == s) || (match o.op with
  | .fieldAddr _ (.tmp x) _=>fixedB ops x && isPtr (tm.getD x .unk)
  | _=>false)
 | none=>true
def sepB (ops : Array Oper) (tm : List AV) (a b : Oper) : Bool :=
 match a.op,b.op with
 | .load _ (.tmp s),.store _ (.tmp t) _=>sepT ops tm s t
 | .store _ (.tmp t) _,.load _ (.tmp s)=>sepT ops tm s t
 | .load _ (.tmp s),.call { callee:=.builtin .append,args:=_,argTypes:=_ }=>boxB ops tm s
 | .call { callee:=.builtin .append,args:=_,argTypes:=_ },.load _ (.tmp s)=>boxB ops tm s
 | _,_=>false
def mkB : Op → Bool
 | .buildSlice ..=>true
 | .makeSlice ..=>true
 | .call { callee:=.builtin .append,.. }=>true
 | _=>false
def locs (bef : List Nat) (s : Nat) : Nat → List Oper → Bool
 | _,[]=>true
 | i,o :: os=>(match o.dst with
  | some d=>!(d == s) || (mkB o.op && !bef.contains i)
  | none=>true) && locs bef s (i + 1) os
def uxB : AV → Bool
 | .undef=>true
 | .unk=>true
 | _=>false
def locB (ops : Array Oper) (tm : List AV) (bef : List Nat) (s : Nat) : Bool:=uxB (tm.getD s .unk) && locs bef s 0 ops.toList
def locOp (ops : Array Oper) (tm : List AV) (bef : List Nat) : Op → Bool
 | .call { callee:=.builtin .append,args,argTypes:=_ }=>match args.toList with
  | .tmp s :: _=>locB ops tm bef s
  | _=>false
 | .convert _ _ (.tmp s)=>locB ops tm bef s
 | _=>false
def madeB : Op → Bool
 | .alloc _=>true
 | .box ..=>true
 | _=>false
def simB : Op → Bool
 | .store ..=>true
 | .convert ..=>true
 | .call { callee:=.builtin .append,.. }=>true
 | _=>false
def sepL (Γ : Env) (ops : Array Oper) (tm : List AV) (ba bb : List Nat) (a b : Oper) : Bool:=(!changes Γ a.op || locOp ops tm bb a.op) && (!changes Γ b.op || locOp ops tm ba b.op)
def sepM (a b : Oper) : Bool:=(madeB b.op && simB a.op) || (madeB a.op && simB b.op)
def pairOK (Γ : Env) (ops : Array Oper) (tm : List AV) (ba bb : List Nat) (a b : Oper) : Bool :=
 Oper.apart ops a b && (((!(changes Γ a.op && touches Γ b.op) && !(touches Γ a.op && changes Γ b.op)) || sepB ops tm a b) || (sepM a b || sepL Γ ops tm ba bb a b))
def regOK (Γ : Env) (ops : Array Oper) (tm : List AV) : Bool :=
 (List.range ops.size).all fun j =>
  ((ops[j]?).map fun b=>b.after.all fun e=>!Region.binds .any e || Nat.blt e.on j).getD false &&
  (List.range j).all fun i=>((ancTab ops.toList).getD j []).contains i || (match ops[i]?,ops[j]? with
   | some a,some b=>pairOK Γ ops tm ((ancTab ops.toList).getD i []) ((ancTab ops.toList).getD j []) a b
   | _,_=>false)
structure Norm where
 len : Nat
 slots : List Nat
 rows : List Nat:=[]
 homes : List (Nat × Nat × TypeId):=[]
 cells : List (Nat × Nat × Nat × TypeId):=[]
def maskFrom (keep ids : List Nat) : Nat → List AV → List AV
 | _,[]=>[]
 | i,v :: vs=>(if keep.contains i then v.only ids else .unk) :: maskFrom keep ids (i + 1) vs
def keepRows (rows : List (Nat × Row)) (ids : List Nat) : List Nat → List (Nat × Row)
 | []=>[]
 | i :: is=>match lookup rows i with
  | some r=>(i,r.only ids) :: keepRows rows ids is
  | none=>keepRows rows ids is
def mask (slots ids : List Nat) (st : St) : St:=⟨maskFrom slots ids 0 st.tm,keepRows st.rows ids ids,ids⟩
def rowIds : List (Nat × Row) → List Nat
 | []=>[]
 | (i,_) :: rest=>i :: rowIds rest
def DROP : Nat:=1000000
def dropRow (st : St) (id : Nat) : St:=mask (List.range st.tm.length) ((rowIds st.rows).filter fun i=>!(i == id)) st
def home1 (st : St) (x : Nat × Nat × TypeId) : St :=
 if x.1 = DROP then dropRow st x.2.1 else
 if st.used.contains x.2.1 || Nat.ble PID x.2.1 then st else
 match st.tm.getD x.1 .unk with
 | .own id =>
  match lookup st.rows id with
  | some r=>⟨st.tm.set x.1 (.own x.2.1),setRow (delRow st.rows id) x.2.1 r,x.2.1 :: st.used⟩
  | none=>st
 | .slz s=>if Nat.blt 0 s.width then ⟨st.tm.set x.1 (.own x.2.1),setRow st.rows x.2.1 (.arr false s x.2.2 [] none),x.2.1 :: st.used⟩ else st
 | .sub id 0 n =>
  match lookup st.rows id with
  | some (.arr false s e es _)=>if Nat.ble n es.length then ⟨st.tm.set x.1 (.own x.2.1),setRow (delRow st.rows id) x.2.1 (.arr false s e (es.take n) none),x.2.1 :: st.used⟩ else st
  | _=>st
 | _=>st
def home2 (st : St) (x : Nat × Nat × Nat × TypeId) : St :=
 if st.used.contains x.2.2.1 || Nat.ble PID x.2.2.1 then st else
 match lookup st.rows x.1 with
 | some (.box im cs) =>
  match cs.getD x.2.1 .unk with
  | .own id =>
   match lookup st.rows id with
   | some r=>if id = x.1 then st else ⟨st.tm,setRow (setRow (delRow st.rows id) x.2.2.1 r) x.1 (.box im (cs.set x.2.1 (.own x.2.2.1))),x.2.2.1 :: st.used⟩
   | none=>st
  | .slz s=>if Nat.blt 0 s.width then ⟨st.tm,setRow (setRow st.rows x.2.2.1 (.arr false s x.2.2.2 [] none)) x.1 (.box im (cs.set x.2.1 (.own x.2.2.1))),x.2.2.1 :: st.used⟩ else st
  | _=>st
 | some (.foc im s e pre cs post) =>
  match cs.getD x.2.1 .unk with
  | .own id =>
   match lookup st.rows id with
   | some r=>if id = x.1 then st else ⟨st.tm,setRow (setRow (delRow st.rows id) x.2.2.1 r) x.1 (.foc im s e pre (cs.set x.2.1 (.own x.2.2.1)) post),x.2.2.1 :: st.used⟩
   | none=>st
  | _=>st
 | _=>st
def norm (N : Norm) (st : St) : St :=
 mask N.slots N.rows (N.cells.foldl home2 (N.homes.foldl home1 (mask N.slots (rowIds st.rows) st)))
abbrev LSumm:=(ρ : Type) → List AV → List (Option Row) → (Ex → List AV → List (Option Row) → Option ρ) → Option ρ
structure Loop where
 N : Norm
 L : LSumm
def valsOf (N : Norm) (st : St) : List AV:=N.slots.map fun i=>st.tm.getD i .unk
def rowsN (N : Norm) (st : St) : List (Option Row):=N.rows.map fun i=>lookup st.rows i
def setAll : List AV → List Nat → List AV → List AV
 | tm,i :: is,v :: vs=>setAll (tm.set i v) is vs
 | tm,_,_=>tm
def putRows : List Nat → List (Option Row) → List (Nat × Row)
 | i :: is,some r :: rs=>(i,r) :: putRows is rs
 | _ :: is,none :: rs=>putRows is rs
 | _,_=>[]
def expand (N : Norm) (vs : List AV) (rs : List (Option Row)) : St:=⟨setAll (List.replicate N.len .unk) N.slots vs,putRows N.rows rs,N.rows⟩
def iter (N : Norm) (body : St → Option (Ex × St)) : Nat → List AV → List (Option Row) → Option (Ex × List AV × List (Option Row))
 | 0,_,_=>none
 | n + 1,vs,rs =>
  match body (expand N vs rs) with
  | none=>none
  | some p=>if Nat.beq p.2.tm.length N.len then (match p.1 with
   | .normal=>iter N body n (valsOf N (norm N p.2)) (rowsN N (norm N p.2))
   | e=>some (e,valsOf N (norm N p.2),rowsN N (norm N p.2))) else none
noncomputable def both {ρ : Type} (a b : Option ρ) : Option ρ:=@ite _ (a = b) (Classical.propDecidable _) a none
theorem both_some {ρ : Type} {a b : Option ρ} {r : ρ} (h : both a b = some r) : a = some r ∧ b = some r:=by
 unfold both at h
 split at h
 ·rename_i e;exact ⟨h,e ▸ h⟩
 ·cases h
def firstRegion : Code → Nat
 | .region id _ _=>id
 | .seq a _=>firstRegion a
 | .block _ b=>firstRegion b
 | .loop b=>firstRegion b
 | .scope b=>firstRegion b
 | .cond _ a _=>firstRegion a
 | _=>0
def rngsOf : Code → List (Array Tmp × Code × Code)
 | .seq a b=>rngsOf a ++ rngsOf b
 | .cond _ a b=>rngsOf a ++ rngsOf b
 | .block _ b=>rngsOf b
 | .loop b=>rngsOf b
 | .rangeFunc _ ps a b=>[(ps,a,b)]
 | _=>[]
def rngRow (key : Int) (st : St) : Row:=.box false (.tup [.int .i64 key] :: AV.onlys (rowIds st.rows) st.tm)
def rngEnd {ρ : Type} (site : Nat) (st : St) (k : Ex → St → Option ρ) : Option ρ :=
 match lookup st.rows site with
 | some (.box false (.tup [.int _ _] :: _))=>k .normal (dropRow st site)
 | some (.box false (.tup [.int _ _,.bool true] :: _))=>k .ret (dropRow st site)
 | _=>none
def unrL (f : (ρ : Type) → St → (Ex → St → Option ρ) → Option ρ) : Nat → (ρ : Type) → St → (Ex → St → Option ρ) → Option ρ
 | 0,_,_,_=>none
 | n + 1,ρ,st,k=>f ρ st fun e st'=>match e with
  | .normal=>unrL f n ρ st' k
  | e=>k e st'
noncomputable def evC (P : Program) (Γ : Env) (K : List (Nat × Loop)) : Code → (ρ : Type) → St → (Ex → St → Option ρ) → Option ρ
 | .skip,_,st,k=>k .normal st
 | .label _,_,st,k=>k .normal st
 | .region id ops draw,_,st,k =>
  if Nat.ble ops.size 64 then
   (if draw then
    (if regOK Γ ops st.tm && Nat.blt id 67108864 then evOps P Γ id ops.toList (some (ancTab ops.toList)) (fun st'=>k .normal st') 0 ops.toList st else none)
   else evOps P Γ id ops.toList none (fun st'=>k .normal st') 0 ops.toList st)
  else none
 | .seq a b,ρ,st,k=>evC P Γ K a ρ st fun e st'=>match e with
  | .normal=>evC P Γ K b ρ st' k
  | e=>k e st'
 | .cond c a b,ρ,st,k =>
  match val st.tm c with
  | .bool t=>bif t then evC P Γ K a ρ st k else evC P Γ K b ρ st k
  | .ubool=>if Γ.fork then both (evC P Γ K a ρ st k) (evC P Γ K b ρ st k) else none
  | _=>none
 | .block id b,ρ,st,k=>evC P Γ K b ρ st fun e st'=>match e with
  | .exit i=>if i = id then k .normal st' else k (.exit i) st'
  | e=>k e st'
 | .loop b,ρ,st,k =>
  match findIn K (firstRegion b) with
  | some l =>
   if Nat.beq st.tm.length l.N.len then (norm l.N st).force fun st1=>l.L ρ (valsOf l.N st1) (rowsN l.N st1) fun e vs rs=>k e (expand l.N vs rs)
   else none
  | none=>unrL (fun ρ st k=>evC P Γ K b ρ st k) Γ.unroll ρ st k
 | .exit id,_,st,k=>k (.exit id) st
 | .ret,_,st,k=>k .ret st
 | .rangeFunc g _ _ body,_,st,k =>
  match findIn Γ.rng (firstRegion body) with
  | some (key,site) =>
   match val st.tm g with
   | .fn gf caps =>
    match findX Γ gf with
    | some F =>
     if (entersB P gf && hasBody P gf) && (!st.used.contains site && Nat.blt site PID) then
      evX site F (.own site :: caps) (setRow st.rows site (rngRow key st)) fun e =>
       if freshB site e (site :: st.used) then (apply site none e ⟨st.tm,setRow st.rows site (rngRow key st),site :: st.used⟩).force fun st2=>rngEnd site st2 k else none
     else none
    | none=>none
   | _=>none
  | none=>none
 | _,_,_,_=>none
def loopsOf : Code → List Code
 | .seq a b=>loopsOf a ++ loopsOf b
 | .cond _ a b=>loopsOf a ++ loopsOf b
 | .block _ b=>loopsOf b
 | .loop b=>b :: loopsOf b
 | _=>[]
def resultOf (P : Program) (rows : List (Nat × Row)) (tm : List AV) : ResultVar → Option AV
 | .tmp t=>some (tm.getD t .unk)
 | .cell t ty =>
  match tm.getD t .unk with
  | .ptr id off=>match lookup rows id with
   | some (.box _ cs)=>evLoad P ty (cs.drop off) fun v=>some v
   | _=>none
  | _=>none
def resultsOf (P : Program) (rows : List (Nat × Row)) (tm : List AV) : List ResultVar → Option (List AV)
 | []=>some []
 | r :: rs=>match resultOf P rows tm r with
  | some v=>match resultsOf P rows tm rs with
   | some vs=>some (v :: vs)
   | none=>none
  | none=>none
def one : List AV → AV
 | [v]=>v
 | vs=>.tup vs
def finish0 {ρ : Type} (P : Program) (fn : Func) (st : St) (k : AV → Option ρ) : Option ρ :=
 match resultsOf P st.rows st.tm fn.results.toList with
 | some vs =>
  match purL (pur1 st.rows depth) vs with
  | some p=>k (one (AV.nzs p.1))
  | none=>none
 | none=>none
def finish {ρ : Type} (P : Program) (fn : Func) (st : St) (k : AV → Option ρ) : Option ρ :=
 match resultsOf P st.rows st.tm fn.results.toList with
 | some [.sub id lo n] =>
  match lookup st.rows id with
  | some (.arr _ s _ es _)=>bif decide (lo + n ≤ es.length) then k (.slv s ((es.drop lo).take n)) else none
  | _=>none
 | some vs =>
  match purL (pur1 st.rows depth) vs with
  | some p=>k (one (AV.nzs p.1))
  | none=>none
 | none=>none
theorem finish_eq {ρ : Type} (P : Program) (fn : Func) (st : St) (k : AV → Option ρ) : finish P fn st k = finish0 P fn st k:=by
 unfold finish finish0
 cases resultsOf P st.rows st.tm fn.results.toList with
 | none=>rfl
 | some vs =>
  split
  ·rename_i id lo n he
   cases he
   show _ = match purL (pur1 st.rows 12) [.sub id lo n] with
    | some p=>k (one (AV.nzs p.1))
    | none=>none
   have e : pur1 st.rows 12 (.sub id lo n) = match lookup st.rows id with
    | some (.arr _ s _ es _)=>if lo + n ≤ es.length then some (.slv s ((es.drop lo).take n),[id]) else none
    | _=>none:=rfl
   have e2 : ∀ x,purL (pur1 st.rows 12) [x] = match pur1 st.rows 12 x with
    | none=>none
    | some p=>some ([p.1],p.2 ++ []):=fun x=>rfl
   rw [e2,e]
   generalize lookup st.rows id = L
   cases L with
   | none=>rfl
   | some r =>
    cases r with
    | box _ _=>rfl
    | foc _ _ _ _ _ _=>rfl
    | arr i s e es sp =>
     dsimp only
     by_cases h : lo + n ≤ es.length
     ·rw [if_pos h,decide_eq_true h];rfl
     ·rw [if_neg h,decide_eq_false h];rfl
  ·rename_i he
   cases he
   rfl
  ·rename_i he
   cases he
noncomputable def evF (P : Program) (Γ : Env) (K : List (Nat × Loop)) (fn : Func) : Summ:=fun ρ args k =>
 match fn.body with
 | none=>none
 | some c=>(St.mk (args ++ List.replicate (fn.ntmps - args.length) .undef) [] []).force fun st=>evC P Γ K c ρ st fun e st=>match e with
  | .ret=>finish P fn st k
  | .normal=>finish P fn st k
  | .exit _=>none
def rowsOf (rows : List (Nat × Row)) : List Nat → Option (List Row)
 | []=>some []
 | i :: is =>
  match rowsOf rows is with
  | none=>none
  | some q =>
   match lookup rows i with
   | some r=>some (r :: q)
   | none=>none
def toR (ids : List Nat) (i : Nat) : Option Nat:=if Nat.ble PID i then some i else (idx ids i).map (RID + ·)
def paramRows (rows : List (Nat × Row)) : Nat → Nat → List (Option Row)
 | 0,_=>[]
 | n + 1,b=>lookup rows b :: paramRows rows n (b + 1)
def cellsOfRows : List (Option Row) → List AV
 | []=>[]
 | some (.box false cs) :: rs=>cs ++ cellsOfRows rs
 | _ :: rs=>cellsOfRows rs
def finishX {ρ : Type} (P : Program) (fn : Func) (np : Nat) (st : St) (k : AV → List (Option Row) → List Row → Option ρ) : Option ρ :=
 match resultsOf P st.rows st.tm fn.results.toList with
 | none=>none
 | some vs =>
  match purL (opn1 st.rows depth) vs with
  | none=>none
  | some p =>
   match (reach (setImm p.2 st.rows) depth (p.1 ++ cellsOfRows (paramRows (setImm p.2 st.rows) np PID)) []).filter (fun i=>Nat.blt i PID) with
   | ids =>
    match rowsOf (setImm p.2 st.rows) ids with
    | none=>none
    | some nrow =>
     if nodupB ids && (Nat.ble np 1000000 && Nat.ble ids.length 1000000) then
      k (one (AV.nzs (AV.rens (toR ids) p.1))) ((paramRows (setImm p.2 st.rows) np PID).map fun r=>r.map fun r=>(r.forget).ren (toR ids)) (nrow.map fun r=>(r.forget).ren (toR ids))
     else none
def homeK {ρ : Type} (st : St) (x : Nat × Nat × TypeId) (k : St → Option ρ) : Option ρ :=
 if x.1 = DROP then k (dropRow st x.2.1) else
 if st.used.contains x.2.1 || Nat.ble PID x.2.1 then k st else
 match st.tm.getD x.1 .unk with
 | .sub id 0 n =>
  match lookup st.rows id with
  | some (.arr false s e es _)=>bif Nat.ble n es.length then k ⟨st.tm.set x.1 (.own x.2.1),setRow (delRow st.rows id) x.2.1 (.arr false s e (es.take n) none),x.2.1 :: st.used⟩ else none
  | _=>k st
 | _=>k (home1 st x)
def homes {ρ : Type} : List (Nat × Nat × TypeId) → St → (St → Option ρ) → Option ρ
 | [],st,k=>k st
 | x :: l,st,k=>homeK st x fun st=>homes l st k
noncomputable def evFX (P : Program) (Γ : Env) (K : List (Nat × Loop)) (H : List (Nat × Nat × TypeId)) (fn : Func) : SummX:=fun ρ args rows k =>
 match fn.body with
 | none=>none
 | some c=>(St.mk (args ++ List.replicate (fn.ntmps - args.length) .undef) (zipIds PID rows) (List.range' PID rows.length)).force fun st=>evC P Γ K c ρ st fun e st=>match e with
  | .ret=>homes H st fun st=>finishX P fn rows.length st k
  | .normal=>homes H st fun st=>finishX P fn rows.length st k
  | .exit _=>none
end Go.Ev


namespace Go.Ev
open Go.RowKit
abbrev Bet:=Nat → Option (Value × Nat)
def flat (es : List AV) : List AV:=es.flatMap AV.cells
def nob : Bet:=fun _=>none
inductive VRel (w : World) (S : Nat → Prop) : Bet → AV → Value → Prop
 | unk (β : Bet) (v : Value) : VRel w S β .unk v
 | undef (β : Bet) : VRel w S β .undef Go.undef
 | int (β : Bet) (k : IntKind) (n : Int) : VRel w S β (.int k n) (.int k n)
 | bool (β : Bet) (b : Bool) : VRel w S β (.bool b) (.bool b)
 | ubool (β : Bet) (b : Bool) : VRel w S β .ubool (.bool b)
 | nl (β : Bet) (v : Value) (h : nilB v = true) : VRel w S β .nl v
 | str (β : Bet) (s : List UInt8) : VRel w S β (.str s) (.string ⟨s.toArray⟩)
 | agg (β : Bet) (cs : List AV) (vs : List Value) (hl : vs.length = cs.length) (h1 : ∀ u ∈ vs,u.oneCell' = true)
   (h : ∀ (j : Nat) (c : AV) (u : Value),cs[j]? = some c → vs[j]? = some u → VRel w S β c u) : VRel w S β (.agg cs) (.agg vs.toArray)
 | tup (β : Bet) (cs : List AV) (vs : List Value) (hl : vs.length = cs.length)
   (h : ∀ (j : Nat) (c : AV) (u : Value),cs[j]? = some c → vs[j]? = some u → VRel w S β c u) : VRel w S β (.tup cs) (.tuple vs.toArray)
 | slv (β : Bet) (s : Sh) (es : List AV) (A : Option Addr) (c : Nat) (a : Addr) (xs : List Value) (hs : ∀ e ∈ es,hasSh s e = true) (hc : es.length ≤ c) (hm : c ≤ maxLen)
   (hA : es ≠ [] → A = some a ∧ S a.block) (hl : xs.length = (flat es).length) (h1 : ∀ u ∈ xs,u.oneCell' = true)
   (hx : ∀ (j : Nat) (u : Value),xs[j]? = some u → w.cell? (a.add j) = some u)
   (h : ∀ (j : Nat) (c : AV) (u : Value),(flat es)[j]? = some c → xs[j]? = some u → VRel w S nob c u) : VRel w S β (.slv s es) (.slice A es.length c)
 | slz (β : Bet) (s : Sh) (A : Option Addr) : VRel w S β (.slz s) (.slice A 0 0)
 | eref (β : Bet) (s : Sh) (es : List AV) (i off : Nat) (a : Addr) (xs : List Value) (hi : i < es.length) (hs : ∀ e ∈ es,hasSh s e = true)
   (hS : S a.block) (hl : xs.length = (flat es).length) (h1 : ∀ u ∈ xs,u.oneCell' = true)
   (hx : ∀ (j : Nat) (u : Value),xs[j]? = some u → w.cell? (a.add j) = some u)
   (h : ∀ (j : Nat) (c : AV) (u : Value),(flat es)[j]? = some c → xs[j]? = some u → VRel w S nob c u) :
   VRel w S β (.eref s es i off) (.pointer (some (a.add (i * s.width + off))))
 | ref (β : Bet) (cs : List AV) (a : Addr) (xs : List Value) (hS : S a.block) (hl : xs.length = cs.length) (h1 : ∀ u ∈ xs,u.oneCell' = true)
   (hx : ∀ (j : Nat) (u : Value),xs[j]? = some u → w.cell? (a.add j) = some u)
   (h : ∀ (j : Nat) (c : AV) (u : Value),cs[j]? = some c → xs[j]? = some u → VRel w S nob c u) : VRel w S β (.ref cs) (.pointer (some a))
 | ifr (β : Bet) (t : Nat) (cs : List AV) (v : Value) (h : VRel w S nob (.ref cs) v) : VRel w S β (.ifr t cs) (.iface t v)
 | nsl (β : Bet) : VRel w S β .nsl (.slice none 0 0)
 | mpv (β : Bet) (es : List AV) (ps : List (Value × Value)) (hl : ps.length = es.length)
   (h : ∀ (j : Nat) (c : AV) (u : Value × Value),es[j]? = some c → ps[j]? = some u → VRel w S nob c (.tuple #[u.1,u.2])) : VRel w S β (.mpv es) (.tuple (ps.map fun p=>Value.tuple #[p.1,p.2]).toArray)
 | ptr (β : Bet) (id off g wd : Nat) (hb : β id = some (.pointer (some ⟨g,0,none⟩),wd)) : VRel w S β (.ptr id off) (.pointer (some ⟨g,off,none⟩))
 | eptr (β : Bet) (id i off g n c wd o : Nat) (hb : β id = some (.slice (some ⟨g,o,none⟩) n c,wd)) : VRel w S β (.eptr id i off) (.pointer (some ⟨g,o + (i * wd + off),none⟩))
 | own (β : Bet) (id : Nat) (v : Value) (wd : Nat) (hb : β id = some (v,wd)) : VRel w S β (.own id) v
 | sub (β : Bet) (id lo len : Nat) (A : Option Addr) (n c wd : Nat) (hb : β id = some (.slice A n c,wd)) : VRel w S β (.sub id lo len) (.slice (if c = lo then A else A.map (·.add (lo * wd))) len (c - lo))
 | fn (β : Bet) (f : Nat) (cs : List AV) (vs : List Value) (hl : vs.length = cs.length)
   (h : ∀ (j : Nat) (c : AV) (u : Value),cs[j]? = some c → vs[j]? = some u → VRel w S β c u) : VRel w S β (.fn f cs) (.func (.func f) #[] vs.toArray)
def VRels (w : World) (S : Nat → Prop) (β : Bet) (cs : List AV) (vs : List Value) : Prop :=
 vs.length = cs.length ∧ ∀ (j : Nat) (c : AV) (u : Value),cs[j]? = some c → vs[j]? = some u → VRel w S β c u
theorem add_block (a : Addr) (j : Nat) : (a.add j).block = a.block:=by unfold Addr.add;split <;> rfl
theorem cells_keep {w w' : World} {S : Nat → Prop} (hw : ∀ b,S b → w'.heap[b]? = w.heap[b]?) (a : Addr) (xs : List Value) (hs : S a.block)
  (hx : ∀ (j : Nat) (u : Value),xs[j]? = some u → w.cell? (a.add j) = some u) (j : Nat) (u : Value) (hu : xs[j]? = some u) : w'.cell? (a.add j) = some u :=
 (World.cell?_of_block (w:=w) (by rw [add_block];exact hw _ hs)).trans (hx j u hu)
theorem VRel.mono {w w' : World} {S S' : Nat → Prop} {β : Bet} {c : AV} {v : Value} (h : VRel w S β c v)
  (hS : ∀ b,S b → S' b) (hw : ∀ b,S b → w'.heap[b]? = w.heap[b]?) : ∀ {β' : Bet},(∀ id x,β id = some x → β' id = some x) → VRel w' S' β' c v:=by
 induction h with
 | unk β v=>intro β' _;exact .unk β' v
 | undef=>intro β' _;exact .undef β'
 | int β k n=>intro β' _;exact .int β' k n
 | bool β b=>intro β' _;exact .bool β' b
 | ubool β b=>intro β' _;exact .ubool β' b
 | nl β v h=>intro β' _;exact .nl β' v h
 | str β s=>intro β' _;exact .str β' s
 | agg β cs vs hl h1 _ ih=>intro β' hb;exact .agg β' cs vs hl h1 fun j c u hc hu=>ih j c u hc hu hb
 | tup β cs vs hl _ ih=>intro β' hb;exact .tup β' cs vs hl fun j c u hc hu=>ih j c u hc hu hb
 | slv β s es A c a xs hs hc hm hA hl h1 hx _ ih =>
  intro β' _
  refine .slv β' s es A c a xs hs hc hm (fun hne=>⟨(hA hne).1,hS _ (hA hne).2⟩) hl h1 ?_ fun j c u hc hu=>ih j c u hc hu fun _ _ h=>h
  rcases es with _ | ⟨e,es⟩
  ·intro j u hu
   have : xs = []:=List.eq_nil_of_length_eq_zero (by simpa [flat] using hl)
   subst this
   simp at hu
  ·exact cells_keep hw a xs (hA (by simp)).2 hx
 | slz β s A=>intro β' _;exact .slz β' s A
 | eref β s es i off a xs hi hs hSa hl h1 hx _ ih=>intro β' _;exact .eref β' s es i off a xs hi hs (hS _ hSa) hl h1 (cells_keep hw a xs hSa hx) fun j c u hc hu=>ih j c u hc hu fun _ _ h=>h
 | ref β cs a xs hSa hl h1 hx _ ih=>intro β' _;exact .ref β' cs a xs (hS _ hSa) hl h1 (cells_keep hw a xs hSa hx) fun j c u hc hu=>ih j c u hc hu fun _ _ h=>h
 | ifr β t cs v _ ih=>intro β' _;exact .ifr β' t cs v (ih fun _ _ h=>h)
 | nsl=>intro β' _;exact .nsl β'
 | mpv β es vs hl _ ih=>intro β' _;exact .mpv β' es vs hl fun j c u hc hu=>ih j c u hc hu fun _ _ h=>h
 | ptr β id off g wd hbt=>intro β' hb;exact .ptr β' id off g wd (hb _ _ hbt)
 | eptr β id i off g n c wd o hbt=>intro β' hb;exact .eptr β' id i off g n c wd o (hb _ _ hbt)
 | own β id v wd hbt=>intro β' hb;exact .own β' id v wd (hb _ _ hbt)
 | sub β id lo len A n c wd hbt=>intro β' hb;exact .sub β' id lo len A n c wd (hb _ _ hbt)
 | fn β f cs vs hl _ ih=>intro β' hb;exact .fn β' f cs vs hl fun j c u hc hu=>ih j c u hc hu hb
theorem VRels.mono {β β' : Bet} {w w' : World} {S S' : Nat → Prop} {cs : List AV} {vs : List Value} (h : VRels w S β cs vs)
  (hS : ∀ b,S b → S' b) (hw : ∀ b,S b → w'.heap[b]? = w.heap[b]?) (hb : ∀ id x,β id = some x → β' id = some x) : VRels w' S' β' cs vs :=
 ⟨h.1,fun j c u hc hu=>(h.2 j c u hc hu).mono hS hw hb⟩
theorem VRels.nil {β : Bet} {w : World} {S : Nat → Prop} : VRels w S β [] []:=⟨rfl,fun j c u hc=>by simp at hc⟩
theorem VRels.cons {β : Bet} {w : World} {S : Nat → Prop} {c : AV} {cs : List AV} {v : Value} {vs : List Value} (h : VRel w S β c v) (hs : VRels w S β cs vs) : VRels w S β (c :: cs) (v :: vs):=by
 refine ⟨by simp [hs.1],fun j x u hx hu=>?_⟩
 cases j with
 | zero=>simp at hx hu;subst hx;subst hu;exact h
 | succ j=>simp at hx hu;exact hs.2 j x u hx hu
theorem VRels.inv {β : Bet} {w : World} {S : Nat → Prop} {c : AV} {cs : List AV} {vs : List Value} (h : VRels w S β (c :: cs) vs) : ∃ v vs',vs = v :: vs' ∧ VRel w S β c v ∧ VRels w S β cs vs':=by
 cases vs with
 | nil=>have:=h.1;simp at this
 | cons v vs'=>exact ⟨v,vs',rfl,h.2 0 c v rfl rfl,by have:=h.1;simpa using this,fun j x u hx hu=>h.2 (j + 1) x u (by simpa using hx) (by simpa using hu)⟩
theorem VRels.inv_nil {β : Bet} {w : World} {S : Nat → Prop} {vs : List Value} (h : VRels w S β [] vs) : vs = []:=List.eq_nil_of_length_eq_zero (by simpa using h.1)
theorem VRels.append {β : Bet} {w : World} {S : Nat → Prop} {cs ds : List AV} {vs us : List Value} (h : VRels w S β cs vs) (h' : VRels w S β ds us) : VRels w S β (cs ++ ds) (vs ++ us):=by
 induction cs generalizing vs with
 | nil=>rw [h.inv_nil];simpa using h'
 | cons c cs ih=>obtain ⟨v,vs',rfl,hv,hvs⟩:=h.inv;exact VRels.cons hv (ih hvs)
theorem VRels.drop {β : Bet} {w : World} {S : Nat → Prop} {cs : List AV} {vs : List Value} (h : VRels w S β cs vs) (n : Nat) : VRels w S β (cs.drop n) (vs.drop n) :=
 ⟨by simp [h.1],fun j c u hc hu=>h.2 (n + j) c u (by simpa using hc) (by simpa using hu)⟩
theorem VRels.take {β : Bet} {w : World} {S : Nat → Prop} {cs : List AV} {vs : List Value} (h : VRels w S β cs vs) (n : Nat) : VRels w S β (cs.take n) (vs.take n):=by
 refine ⟨by simp [h.1],fun j c u hc hu=>?_⟩
 rw [List.getElem?_take] at hc hu
 split at hc
 ·rename_i hj;rw [if_pos hj] at hu;exact h.2 j c u hc hu
 ·cases hc
theorem VRels.at_ {β : Bet} {w : World} {S : Nat → Prop} {cs : List AV} {vs : List Value} (h : VRels w S β cs vs) {j : Nat} {c : AV} (hc : cs[j]? = some c) : ∃ u,vs[j]? = some u ∧ VRel w S β c u:=by
 have hj : j < vs.length:=by rw [h.1];exact (List.getElem?_eq_some_iff.1 hc).1
 exact ⟨vs[j],List.getElem?_eq_getElem hj,h.2 j c _ hc (List.getElem?_eq_getElem hj)⟩
theorem VRel.laid {β : Bet} {w : World} {S : Nat → Prop} {c : AV} {v : Value} (h : VRel w S β c v) (hb : c.laidB = true) (hown : ∀ id x,β id = some x → x.1.oneCell' = true) :
  ∃ us : List Value,v.cells = us.toArray ∧ VRels w S β c.cells us ∧ ∀ u ∈ us,u.oneCell' = true:=by
 have one : ∀ (c : AV) (v : Value),c.cells = [c] → v.cells = #[v] → v.oneCell' = true → VRel w S β c v →
   ∃ us : List Value,v.cells = us.toArray ∧ VRels w S β c.cells us ∧ ∀ u ∈ us,u.oneCell' = true:=fun c v hc hv h1 h =>
  ⟨[v],by simp [hv],by rw [hc];exact VRels.cons h VRels.nil,by simpa using h1⟩
 cases h with
 | unk _ v=>simp [AV.laidB] at hb
 | undef _=>simp [AV.laidB] at hb
 | int _ k n=>exact one _ _ rfl rfl rfl (.int _ k n)
 | bool _ b=>exact one _ _ rfl rfl rfl (.bool _ b)
 | ubool _ b=>exact one _ _ rfl rfl rfl (.ubool _ b)
 | nl _ v h=>exact one _ _ rfl (by cases v <;> first | rfl | (simp [nilB] at h)) (by cases v <;> first | rfl | (simp [nilB] at h)) (.nl _ v h)
 | str _ s=>exact one _ _ rfl rfl rfl (.str _ s)
 | agg _ cs vs hl h1 h=>exact ⟨vs,rfl,⟨hl,h⟩,h1⟩
 | tup _ cs vs hl h=>simp [AV.laidB] at hb
 | slv _ s es A c a xs hs hc hm hA hl h1 hx h=>exact one _ _ rfl rfl rfl (.slv _ s es A c a xs hs hc hm hA hl h1 hx h)
 | slz _ s A=>exact one _ _ rfl rfl rfl (.slz _ s A)
 | eref _ s es i off a xs hi hs hSa hl h1 hx h=>exact one _ _ rfl rfl rfl (.eref _ s es i off a xs hi hs hSa hl h1 hx h)
 | ref _ cs a xs hSa hl h1 hx h=>exact one _ _ rfl rfl rfl (.ref _ cs a xs hSa hl h1 hx h)
 | ifr _ t cs v h=>exact one _ _ rfl rfl rfl (.ifr _ t cs v h)
 | nsl=>exact one _ _ rfl rfl rfl (.nsl _)
 | mpv _ es vs hl h=>simp [AV.laidB] at hb
 | ptr _ id off g wd hbt=>exact one _ _ rfl rfl rfl (.ptr _ id off g wd hbt)
 | eptr _ id i off g n c wd o hbt=>exact one _ _ rfl rfl rfl (.eptr _ id i off g n c wd o hbt)
 | own _ id v wd hbt =>
  have h1:=hown _ _ hbt
  have hv : v.cells = #[v]:=by cases v <;> first | rfl | (simp [Value.oneCell'] at h1)
  exact one _ _ rfl hv h1 (.own _ id v wd hbt)
 | sub _ id lo len A n c wd hbt=>exact one _ _ rfl rfl rfl (.sub _ id lo len A n c wd hbt)
 | fn _ f cs vs hl h=>exact one _ _ rfl rfl rfl (.fn _ f cs vs hl h)
theorem hass_length : ∀ (l : List Sh) (cs : List AV),hass l cs = true → cs.length = l.length
 | [],[],_=>rfl
 | [],_ :: _,h=>by simp [hass] at h
 | _ :: _,[],h=>by simp [hass] at h
 | s :: l,c :: cs,h=>by simp [hass] at h;simp [hass_length l cs h.2]
theorem has1_cells (s : Sh) (v : AV) (h : has1 s v = true) : v.cells = [v] ∧ s.cells = [s]:=by
 cases s <;> cases v <;> simp [has1] at h <;> exact ⟨rfl,rfl⟩
theorem hasSh_hass (s : Sh) (v : AV) (h : hasSh s v = true) : hass s.cells v.cells = true:=by
 have one : ∀ s : Sh,has1 s v = true → hass s.cells v.cells = true:=fun s h'=>by
  obtain ⟨e1,e2⟩:=has1_cells s v h'
  rw [e1,e2]
  simp [hass,h']
 cases s with
 | agg l=>cases v <;> simp [hasSh] at h;exact h
 | other=>exact one .other h
 | int k=>exact one (.int k) h
 | bool=>exact one .bool h
 | str=>exact one .str h
 | slice s=>exact one (.slice s) h
theorem hasSh_width (s : Sh) (v : AV) (h : hasSh s v = true) : v.cells.length = s.width:=hass_length _ _ (hasSh_hass s v h)
theorem Sh.beq_eq : ∀ (s t : Sh),Sh.beq s t = true → s = t:=by
 intro s
 induction s using Sh.rec (motive_2:=fun l=>∀ l',Sh.beqs l l' = true → l = l') with
 | int k=>intro t h;cases t <;> simp [Sh.beq] at h;rw [h]
 | bool=>intro t h;cases t <;> simp [Sh.beq] at h;rfl
 | str=>intro t h;cases t <;> simp [Sh.beq] at h;rfl
 | slice s ih=>intro t h;cases t <;> simp [Sh.beq] at h;rw [ih _ h]
 | agg l ih=>intro t h;cases t <;> simp [Sh.beq] at h;rw [ih _ h]
 | other=>intro t h;cases t <;> simp [Sh.beq] at h
 | nil=>rename_i l' h;cases l' <;> simp [Sh.beqs] at h;rfl
 | cons a l iha ihl=>rename_i l' h;cases l' <;> simp [Sh.beqs] at h;rw [iha _ h.1,ihl _ h.2]
end Go.Ev

namespace Go.Ev
open Go.Proofs
def Facts (w : World) : Prop := (∃ m : Int, w.cell? ⟨0, 0, none⟩ = some (.int .i64 m)) ∧ Lib.TabIs Tryz.prog w "internal/strconv.uint64pow10" .u64 Lib.pow10Tab
noncomputable def rngAt (c : Option Code) (j : Nat) : Array Tmp × Code × Code:=((c.map rngsOf).getD []).getD j (#[],.skip,.skip)
noncomputable def loopCode (key : Int) : Array Tmp × Code × Code:=match key.toNat with
 | 0=>rngAt Tryz.f14.body 0
 | 1=>rngAt Tryz.f16.body 0
 | _=>rngAt Tryz.f9.body 0
end Go.Ev
