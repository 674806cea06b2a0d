/-
  The evaluator: operations, regions, code. Definitions alone.
-/
import Derived.Shelf.Strings.OnBuilder
import Derived.Shelf.Small.Bits
import Derived.Shelf.Small.Wraps
import Derived.Shelf.Utf8.RuneCount
import Derived.Shelf.Strconv.Itoa3
import Derived.Shelf.Strings.Shaped
import Derived.Shelf.Strings.Split
import Derived.Shelf.Unicode.Decode
import Derived.Shelf.Strings.RuneCount
import Derived.Shelf.Strings.IndexAnyAll
import Derived.Shelf.Unicode.DecodeLast
import Derived.Shelf.Slices.Turned
import Derived.Shelf.Slices.Clone
import Derived.Shelf.Slices.SearchI
import Derived.Shelf.Bytes.SlIndexWhole
import Derived.Shelf.SlicesE.Clone
import Derived.Test.YtijdnecnjenleaaGreatDoorChecked
set_option linter.all false
namespace Go
abbrev aS:=@decide_eq_true
abbrev aT:=@Eq.trans
abbrev ba:=@Bool.and_eq_true
abbrev bH:=@of_decide_eq_true
abbrev bK:=@Int.toNat_natCast
abbrev b4:=@cond_true
abbrev b9:=@Nat.beq_refl
abbrev cA:=@Go.run_underlying
abbrev cH:=@Nat.eq_of_beq_eq_true
abbrev cU:=@cond_false
abbrev cZ:=@decide_eq_false
abbrev c0:=@if_neg
abbrev dc:=@Nat.le_refl
abbrev dh:=@congrArg
abbrev dE:=@if_pos
abbrev ec:=@List.all_eq_true
abbrev ej:=@Option.some.injEq
abbrev e5:=@List.length_cons
abbrev fu:=@List.length_append
abbrev fC:=@List.getElem?_eq_getElem
abbrev fD:=@decide_eq_true_eq
abbrev gv:=@List.mem_cons
abbrev gw:=@List.length_nil
abbrev gD:=@List.mem_append
abbrev gU:=@Prod.mk.injEq
abbrev g':=@List.length_map
abbrev ha:=@beq_self_eq_true
abbrev h0:=@beq_iff_eq
abbrev iL:=@Go.Sem.run_bind
abbrev ic:=@LawfulBEq.eq_of_beq
abbrev iZ:=@List.map_cons
abbrev iM:=@Nat.zero_le
abbrev kA:=@Nat.le_of_ble_eq_true
abbrev jm:=@Option.map_some
abbrev jw:=@List.foldl_cons
abbrev jn:=@Bool.and_eq_true_iff
abbrev jX:=@Go.Result.andThen_ok
abbrev jx:=@List.mem_of_mem_drop
abbrev jy:=@List.append_nil
abbrev jz:=@Bool.and_self
abbrev jK:=@Nat.lt_of_lt_of_le
abbrev jY:=@List.cons.injEq
abbrev jZ:=@Bool.not_eq_true'
abbrev j0:=@Option.bind_some
abbrev kn:=@if_true
abbrev kB:=@Nat.add_mul
abbrev k0:=@List.getElem?_map
abbrev lW:=@Go.Sem.run_pure
abbrev lp:=@Nat.le_trans
abbrev lq:=@List.all_cons
abbrev lr:=@List.mem_of_mem_take
abbrev mg:=@List.flatMap_cons
abbrev lX:=@Nat.add_zero
abbrev lY:=@Bool.not_true
abbrev mh:=@List.not_mem_nil
abbrev mi:=@or_false
abbrev mJ:=@List.length_drop
abbrev mj:=@Option.isSome_iff_exists
abbrev p2:=@Bool.false_eq_true
abbrev oJ:=@List.length_set
abbrev sV:=@Nat.blt_eq
abbrev mK:=@Nat.lt_irrefl
abbrev pj:=@List.nil_append
abbrev mL:=@Go.wrap_small
abbrev mM:=@Bool.or_eq_false_iff
abbrev nk:=@Bool.true_and
abbrev nm:=@List.append_assoc
abbrev nn:=@List.take_of_length_le
abbrev nr:=@Bool.or_eq_true
abbrev oK:=@List.mem_cons_of_mem
abbrev oL:=@Bool.and_true
abbrev oM:=@List.mem_singleton
abbrev oN:=@List.getElem?_eq_some_iff
abbrev p3:=@List.getElem_mem
abbrev pk:=@List.mem_of_getElem?
abbrev pn:=@List.eq_nil_of_length_eq_zero
abbrev po:=@and_true
abbrev pq:=@Bool.not_false
abbrev p4:=@List.map_map
abbrev p5:=@List.map_congr_left
abbrev qR:=@List.length_singleton
abbrev sW:=@Nat.mul_le_mul_right
abbrev qS:=@Bool.false_or
abbrev uf:=@Nat.add_assoc
abbrev rO:=@Go.MapKept.run_getObj_map
abbrev rP:=@List.drop_eq_getElem_cons
abbrev rQ:=@Go.World.grownBy.refl
abbrev sX:=@Nat.zero_add
abbrev sY:=@List.getElem?_cons_zero
abbrev sZ:=@beq_false_of_ne
abbrev s0:=@Array.getElem?_eq_some_iff
abbrev ug:=@Go.Value.tuple.injEq
abbrev uh:=@List.take_append_drop
abbrev ui:=@Int.le_refl
abbrev uj:=@List.mem_map
abbrev AX:=@List.getElem?_take
abbrev vi:=@List.mem_cons_self
abbrev vj:=@List.getElem_of_mem
abbrev vk:=@Go.run_program
abbrev wQ:=@List.length_take
abbrev wR:=@Array.ext'
abbrev vl:=@Nat.eq_zero_or_pos
abbrev wS:=@Nat.beq_eq
abbrev vm:=@List.drop_length
abbrev vn:=@Go.Value.slice.injEq
abbrev vo:=@Go.eqGuard_at_int
abbrev yB:=@Array.getElem?_toList
abbrev wT:=@LawfulMonad.pure_bind
abbrev wU:=@List.take_append_of_le_length
abbrev wV:=@List.mem_append_left
abbrev Dw:=@List.map_nil
abbrev AY:=@List.drop_drop
abbrev Dx:=@List.any_eq_true
abbrev yC:=@List.replicate_succ
abbrev yD:=@List.flatten_cons
abbrev AZ:=@List.take_length
abbrev yE:=@List.ext_getElem?
abbrev A0:=@Go.run_firstCells_some
abbrev yF:=@Nat.mul_one
abbrev yG:=@Go.grownCap_ge
abbrev yH:=@Go.grownCap_le_maxLen
abbrev yI:=@bne_iff_ne
abbrev yJ:=@of_decide_eq_false
abbrev yK:=@List.map_append
abbrev A1:=@List.cons_append
abbrev yL:=@List.length_replicate
abbrev yM:=@Go.callsIn_wide
abbrev A2:=@List.any_eq_false
abbrev A3:=@List.size_toArray
abbrev A4:=@if_false
abbrev A5:=@Nat.zero_mul
abbrev LO:=@List.foldl_nil
abbrev A6:=@Nat.add_sub_cancel_left
abbrev A7:=@Bool.false_and
abbrev A8:=@List.mem_range'_1
abbrev A9:=@List.nodup_cons
abbrev A':=@List.map_id
abbrev Ba:=@Option.some.inj
abbrev Dy:=@Option.getD_some
abbrev Bb:=@Bool.not_eq_false'
abbrev Bc:=@Nat.lt_or_ge
abbrev Bd:=@List.pairwise_iff_getElem
abbrev Be:=@List.length_pos_iff
abbrev Bf:=@Array.getElem?_eq_getElem
abbrev Bg:=@Nat.one_mul
abbrev Bh:=@Nat.add_comm
abbrev Bi:=@List.getElem?_append_right
abbrev Dz:=@Nat.sub_zero
abbrev DA:=@Bool.true_or
abbrev DB:=@List.mem_replicate
abbrev DC:=@Go.Lib.strCells_oneCell
abbrev DD:=@Bool.not_eq_false
abbrev Gz:=@List.take_length_add_append
abbrev DE:=@List.drop_zero
abbrev GA:=@List.getElem?_append_left
abbrev GB:=@List.getElem?_set_self
abbrev DF:=@Nat.sub_self
abbrev DG:=@Bool.not_eq_true
abbrev GC:=@List.set_getElem_self
abbrev DH:=@Go.Addr.mk.injEq
abbrev GD:=@beq_eq_false_iff_ne
abbrev GF:=@List.mem_filter
abbrev LP:=@Array.toList_map
abbrev LQ:=@Array.toList_range
abbrev GG:=@Array.toArray_toList
abbrev LR:=@Go.heap_alloc_new
abbrev GH:=@List.drop_of_length_le
abbrev GI:=@List.getElem?_eq_none
abbrev GJ:=@Go.eqGuard_at_string
abbrev GK:=@Bool.or_false
abbrev GL:=@bne_self_eq_false
abbrev LS:=@List.take_add_one
abbrev GM:=@Option.isNone_iff_eq_none
abbrev GN:=@decide_eq_false_iff_not
abbrev LU:=@Array.mapM_eq_mapM_toList
abbrev ae6:=@List.getElem?_drop
abbrev LV:=@Go.Lib.run_firstCells_string
abbrev LW:=@Nat.ble_eq_true_of_le
abbrev Ss:=@Go.run_loadCells_list
abbrev LX:=@Nat.exists_eq_succ_of_ne_zero
abbrev LY:=@List.getElem?_toArray
abbrev LZ:=@Array.empty_append
abbrev L0:=@Array.toList_append
abbrev St:=@List.drop_length_add_append
abbrev L1:=@List.getElem?_cons_succ
abbrev L2:=@List.mem_or_eq_of_mem_set
abbrev Su:=@List.filter_append
abbrev L3:=@Int.toNat_of_nonneg
abbrev L4:=@Option.isSome_eq_false_iff
abbrev L5:=@Int.tmod_lt_of_pos
abbrev Sv:=@List.findIdx?_cons
abbrev L6:=@Option.map_eq_some_iff
abbrev L7:=@Array.size_eq_zero_iff
abbrev L8:=@Array.eq_empty_of_size_eq_zero
end Go
namespace Go.Proofs
open Go.Shelf
def Tryz.Sw:Go.Shelf.Ren:=⟨λ|156=>312|165=>322|166=>323|169=>324|240=>335|241=>336|276=>343|277=>344|n=>n,λ|31=>54|9=>9|3=>3|4=>4|0=>0|20=>20|72=>391|76=>311|70=>389|37=>29|75=>310|127=>394|164=>430|5=>5|80=>392|n=>n,λ|n=>n⟩
def Tryz.Sx:Go.Proofs.Lays.n156 Tryz.prog Tryz.Sw:={
 mixed:=by kernel_rfl
 f156:=Tryz.func312.trans (dh some (by kernel_rfl))
 f165:=Tryz.func322.trans (dh some (by kernel_rfl))
 f166:=Tryz.func323.trans (dh some (by kernel_rfl))
 f169:=Tryz.func324.trans (dh some (by kernel_rfl))
 f240:=Tryz.func335.trans (dh some (by kernel_rfl))
 f241:=Tryz.func336.trans (dh some (by kernel_rfl))
 f276:=Tryz.func343.trans (dh some (by kernel_rfl))
 f277:=Tryz.func344.trans (dh some (by kernel_rfl))
 t0:=Tryz.underlying0
 a0:=Tryz.isAgg0
 z0:=Tryz.sizeOf0
 v0:=Tryz.zeroValue0
 t3:=Tryz.underlying3
 a3:=Tryz.isAgg3
 z3:=Tryz.sizeOf3
 v3:=Tryz.zeroValue3
 t4:=Tryz.underlying4
 a4:=Tryz.isAgg4
 z4:=Tryz.sizeOf4
 v4:=Tryz.zeroValue4
 t9:=Tryz.underlying9
 a9:=Tryz.isAgg9
 z9:=Tryz.sizeOf9
 v9:=Tryz.zeroValue9
 t20:=Tryz.underlying20
 a20:=Tryz.isAgg20
 z20:=Tryz.sizeOf20
 v20:=Tryz.zeroValue20
 t31:=Tryz.underlying54
 a31:=Tryz.isAgg54
 z31:=Tryz.sizeOf54
 v31:=Tryz.zeroValue54
 t37:=Tryz.underlying29
 a37:=Tryz.isAgg29
 z37:=Tryz.sizeOf29
 v37:=Tryz.zeroValue29
 t70:=Tryz.underlying389
 a70:=Tryz.isAgg389
 z70:=Tryz.sizeOf389
 v70:=Tryz.zeroValue389
 t72:=Tryz.underlying391
 a72:=Tryz.isAgg391
 z72:=Tryz.sizeOf391
 v72:=Tryz.zeroValue391
 t75:=Tryz.underlying310
 a75:=Tryz.isAgg310
 z75:=Tryz.sizeOf310
 v75:=Tryz.zeroValue310
 t76:=Tryz.underlying311
 a76:=Tryz.isAgg311
 z76:=Tryz.sizeOf311
 v76:=Tryz.zeroValue311
 t127:=Tryz.underlying394
 a127:=Tryz.isAgg394
 z127:=Tryz.sizeOf394
 v127:=Tryz.zeroValue394
 t164:=Tryz.underlying430
 a164:=Tryz.isAgg430
 z164:=Tryz.sizeOf430
 v164:=Tryz.zeroValue430}
def Tryz.Sy:Builder.Extra Tryz.prog Tryz.Sw:={
 sizeBuilder:=by kernel_rfl
 liesBuilder:=by kernel_rfl
 t5:=Tryz.underlying5
 a5:=Tryz.isAgg5
 z5:=Tryz.sizeOf5
 v5:=Tryz.zeroValue5
 infoByte:=by kernel_rfl
 cellsByte:=by kernel_rfl
 sizeByte:=by kernel_rfl
 neB5:=by decide}
open Go.RowKit in
def Tryz.strings_Join_none(a:Option Addr)(c:Nat)(sep:ByteArray)(w:World):
 Calls Tryz.prog 312 #[.slice a 0 c,.string sep] w λe w'=>e=.returned (.string ⟨#[]⟩)/\w'=w:=Any.strings_Join_none Tryz.Sx Tryz.Sy a c sep w
open Go.RowKit in
def Tryz.strings_Join(ns o c:Nat)(xs:List ByteArray)(sep:ByteArray)(w:World)(wW:∀(j:Nat) x,xs[j]?=some x->w.cell? ⟨ns,o+j,none⟩=some (.string x))(ae7:ns<w.heap.size)(cG:xs.length<=140737488355328)(rR:xs.length<=c)(hlen:(Lib.join (xs.map (·.data.toList)) sep.data.toList).length<=140737488355328):
 Calls Tryz.prog 312 #[.slice (some ⟨ns,o,none⟩) xs.length c,.string sep] w λe w'=>e=.returned (.string ⟨(Lib.join (xs.map (·.data.toList)) sep.data.toList).toArray⟩)/\Below w.heap.size w w':=Any.strings_Join Tryz.Sx Tryz.Sy ns o c xs sep w wW ae7 cG rR hlen
def Tryz.ae8:Go.Shelf.Ren:=⟨λ|171=>187|243=>205|246=>223|283=>250|284=>251|285=>252|286=>253|129=>119|317=>271|318=>272|319=>273|320=>274|337=>290|338=>291|n=>n,λ|3=>3|9=>9|2=>2|4=>4|171=>304|0=>0|53=>189|37=>29|5=>5|173=>306|212=>329|51=>187|20=>20|213=>330|46=>143|232=>377|233=>378|n=>n,λ|17=>1|18=>2|19=>3|n=>n⟩
def Tryz.ae9:Go.Proofs.LaysM.n171 Tryz.prog Tryz.ae8:={
 mixed:=by kernel_rfl
 f129:=Tryz.func119.trans (dh some (by kernel_rfl))
 f171:=Tryz.func187.trans (dh some (by kernel_rfl))
 f243:=Tryz.func205.trans (dh some (by kernel_rfl))
 f246:=Tryz.func223.trans (dh some (by kernel_rfl))
 f283:=Tryz.func250.trans (dh some (by kernel_rfl))
 f284:=Tryz.func251.trans (dh some (by kernel_rfl))
 f285:=Tryz.func252.trans (dh some (by kernel_rfl))
 f286:=Tryz.func253.trans (dh some (by kernel_rfl))
 f317:=Tryz.func271.trans (dh some (by kernel_rfl))
 f318:=Tryz.func272.trans (dh some (by kernel_rfl))
 f319:=Tryz.func273.trans (dh some (by kernel_rfl))
 f320:=Tryz.func274.trans (dh some (by kernel_rfl))
 f337:=Tryz.func290.trans (dh some (by kernel_rfl))
 f338:=Tryz.func291.trans (dh some (by kernel_rfl))
 t0:=Tryz.underlying0
 a0:=Tryz.isAgg0
 z0:=Tryz.sizeOf0
 v0:=Tryz.zeroValue0
 t2:=Tryz.underlying2
 a2:=Tryz.isAgg2
 z2:=Tryz.sizeOf2
 v2:=Tryz.zeroValue2
 t3:=Tryz.underlying3
 a3:=Tryz.isAgg3
 z3:=Tryz.sizeOf3
 v3:=Tryz.zeroValue3
 t4:=Tryz.underlying4
 a4:=Tryz.isAgg4
 z4:=Tryz.sizeOf4
 v4:=Tryz.zeroValue4
 t5:=Tryz.underlying5
 a5:=Tryz.isAgg5
 z5:=Tryz.sizeOf5
 v5:=Tryz.zeroValue5
 t9:=Tryz.underlying9
 a9:=Tryz.isAgg9
 z9:=Tryz.sizeOf9
 v9:=Tryz.zeroValue9
 t20:=Tryz.underlying20
 a20:=Tryz.isAgg20
 z20:=Tryz.sizeOf20
 v20:=Tryz.zeroValue20
 t37:=Tryz.underlying29
 a37:=Tryz.isAgg29
 z37:=Tryz.sizeOf29
 v37:=Tryz.zeroValue29
 t46:=Tryz.underlying143
 a46:=Tryz.isAgg143
 z46:=Tryz.sizeOf143
 v46:=Tryz.zeroValue143
 t51:=Tryz.underlying187
 a51:=Tryz.isAgg187
 z51:=Tryz.sizeOf187
 v51:=Tryz.zeroValue187
 t53:=Tryz.underlying189
 a53:=Tryz.isAgg189
 z53:=Tryz.sizeOf189
 v53:=Tryz.zeroValue189
 t171:=Tryz.underlying304
 a171:=Tryz.isAgg304
 z171:=Tryz.sizeOf304
 v171:=Tryz.zeroValue304
 t173:=Tryz.underlying306
 a173:=Tryz.isAgg306
 z173:=Tryz.sizeOf306
 v173:=Tryz.zeroValue306
 t212:=Tryz.underlying329
 a212:=Tryz.isAgg329
 z212:=Tryz.sizeOf329
 v212:=Tryz.zeroValue329
 t213:=Tryz.underlying330
 a213:=Tryz.isAgg330
 z213:=Tryz.sizeOf330
 t232:=Tryz.underlying377
 a232:=Tryz.isAgg377
 z232:=Tryz.sizeOf377
 v232:=Tryz.zeroValue377
 t233:=Tryz.underlying378
 a233:=Tryz.isAgg378
 z233:=Tryz.sizeOf378
 v233:=Tryz.zeroValue378
 g17:=by kernel_rfl
 g18:=by kernel_rfl
 g19:=by kernel_rfl
 i0:=by kernel_rfl
 i2:=by kernel_rfl
 i3:=by kernel_rfl
 i4:=by kernel_rfl
 i5:=by kernel_rfl
 i9:=by kernel_rfl
 i20:=by kernel_rfl
 i37:=by kernel_rfl
 i46:=by kernel_rfl
 i51:=by kernel_rfl
 i53:=by kernel_rfl
 i171:=by kernel_rfl
 i173:=by kernel_rfl
 i212:=by kernel_rfl
 i232:=by kernel_rfl
 i233:=by kernel_rfl
 m17:=by kernel_rfl
 m18:=by kernel_rfl
 m19:=by kernel_rfl}
open Go.RowKit Go.Sort Go.Lib in
def Tryz.strconv_Itoa(n:Int)(a7: -9223372036854775808<=n)(af:n<=9223372036854775807)(w:World)(afa:Lib.TabIs Tryz.prog w "internal/strconv.uint64pow10" .u64 Lib.pow10Tab):
 Calls Tryz.prog 187 #[.int .i64 n] w λe w'=>e=.returned (.string ⟨(Lib.itoa n).toArray⟩)/\∃k os,w'=grow (w.drewN k) os:=Any.strconv_Itoa Tryz.ae9 n a7 af w afa
def Tryz.afb:Go.Shelf.Ren:=⟨λ|219=>158|217=>125|225=>183|224=>184|267=>185|266=>159|314=>202|n=>n,λ|9=>9|3=>3|4=>4|5=>5|46=>143|146=>269|51=>187|n=>n,λ|1=>0|n=>n⟩
def Tryz.afc:Go.Proofs.Lays.n219 Tryz.prog Tryz.afb:={
 mixed:=by kernel_rfl
 f217:=Tryz.func125.trans (dh some (by kernel_rfl))
 f219:=Tryz.func158.trans (dh some (by kernel_rfl))
 f224:=Tryz.func184.trans (dh some (by kernel_rfl))
 f225:=Tryz.func183.trans (dh some (by kernel_rfl))
 f266:=Tryz.func159.trans (dh some (by kernel_rfl))
 f267:=Tryz.func185.trans (dh some (by kernel_rfl))
 f314:=Tryz.func202.trans (dh some (by kernel_rfl))
 t3:=Tryz.underlying3
 a3:=Tryz.isAgg3
 z3:=Tryz.sizeOf3
 v3:=Tryz.zeroValue3
 t4:=Tryz.underlying4
 a4:=Tryz.isAgg4
 z4:=Tryz.sizeOf4
 v4:=Tryz.zeroValue4
 t5:=Tryz.underlying5
 a5:=Tryz.isAgg5
 z5:=Tryz.sizeOf5
 v5:=Tryz.zeroValue5
 t9:=Tryz.underlying9
 a9:=Tryz.isAgg9
 z9:=Tryz.sizeOf9
 v9:=Tryz.zeroValue9
 t46:=Tryz.underlying143
 a46:=Tryz.isAgg143
 z46:=Tryz.sizeOf143
 v46:=Tryz.zeroValue143
 t51:=Tryz.underlying187
 a51:=Tryz.isAgg187
 z51:=Tryz.sizeOf187
 v51:=Tryz.zeroValue187
 t146:=Tryz.underlying269
 a146:=Tryz.isAgg269
 z146:=Tryz.sizeOf269
 v146:=Tryz.zeroValue269
 g1:=by kernel_rfl}
open Go.RowKit Go.Lib in
def Tryz.stringslite_Index(s sub:ByteArray)(m:Int)(w:World)(an:s.size<4294967281)(hm:w.cell? ⟨0,0,none⟩=some (.int .i64 m)):
 Calls Tryz.prog 158 #[.string s,.string sub] w λe w'=>e=.returned (.int .i64 (Lib.index s.data.toList sub.data.toList))/\w'=w:=Any.stringslite_Index Tryz.afc s sub m w an hm
def Tryz.afd:Go.Shelf.Ren:=⟨λ|185=>208|187=>225|115=>224|253=>226|224=>184|254=>227|255=>254|291=>255|n=>n,λ|37=>29|3=>3|4=>4|0=>0|5=>5|46=>143|9=>9|146=>269|51=>187|n=>n,λ|1=>0|n=>n⟩
def Tryz.Sz:Go.Proofs.Lays.n185 Tryz.prog Tryz.afd:={
 mixed:=by kernel_rfl
 f115:=Tryz.func224.trans (dh some (by kernel_rfl))
 f185:=Tryz.func208.trans (dh some (by kernel_rfl))
 f187:=Tryz.func225.trans (dh some (by kernel_rfl))
 f224:=Tryz.func184.trans (dh some (by kernel_rfl))
 f253:=Tryz.func226.trans (dh some (by kernel_rfl))
 f254:=Tryz.func227.trans (dh some (by kernel_rfl))
 f255:=Tryz.func254.trans (dh some (by kernel_rfl))
 f291:=Tryz.func255.trans (dh some (by kernel_rfl))
 t0:=Tryz.underlying0
 a0:=Tryz.isAgg0
 z0:=Tryz.sizeOf0
 v0:=Tryz.zeroValue0
 t3:=Tryz.underlying3
 a3:=Tryz.isAgg3
 z3:=Tryz.sizeOf3
 v3:=Tryz.zeroValue3
 t4:=Tryz.underlying4
 a4:=Tryz.isAgg4
 z4:=Tryz.sizeOf4
 v4:=Tryz.zeroValue4
 t5:=Tryz.underlying5
 a5:=Tryz.isAgg5
 z5:=Tryz.sizeOf5
 v5:=Tryz.zeroValue5
 t9:=Tryz.underlying9
 a9:=Tryz.isAgg9
 z9:=Tryz.sizeOf9
 v9:=Tryz.zeroValue9
 t37:=Tryz.underlying29
 a37:=Tryz.isAgg29
 z37:=Tryz.sizeOf29
 v37:=Tryz.zeroValue29
 t46:=Tryz.underlying143
 a46:=Tryz.isAgg143
 z46:=Tryz.sizeOf143
 v46:=Tryz.zeroValue143
 t51:=Tryz.underlying187
 a51:=Tryz.isAgg187
 z51:=Tryz.sizeOf187
 v51:=Tryz.zeroValue187
 t146:=Tryz.underlying269
 a146:=Tryz.isAgg269
 z146:=Tryz.sizeOf269
 v146:=Tryz.zeroValue269
 g1:=by kernel_rfl}
open Go.RowKit Go.Lib in
def Tryz.bytes_Index_longer(p q:Option Addr)(n c m d:Nat)(w:World)(ao:2<=m)(yN:n<m)(hm:m<=9223372036854775807):
 Calls Tryz.prog 208 #[.slice p n c,.slice q m d] w λe w'=>e=.returned (.int .i64 (-1))/\w'=w:=Any.bytes_Index_longer Tryz.Sz p q n c m d w ao yN hm
open Go.Proofs Go.RowKit Go.Lib in
def Tryz.bytes_Index_at(bJ a2:Addr)(n b2 k bX:Nat)(xs cm:List Int)(m:Int)(w:World)(ak:xs.length=n)(aN:cm.length=k)(Bj:∀x∈xs,0<=x/\x<256)(pr:∀y∈cm,0<=y/\y<256)(DI:∀i,i<n->w.cell? (bJ.add i)=some (.int .u8 (xs.getD i 0)))(oO:∀i,i<k->w.cell? (a2.add i)=some (.int .u8 (cm.getD i 0)))(rR:n<=b2)(an:n<4294967281)(ai:k<=9223372036854775807)(hm:w.cell? ⟨0,0,none⟩=some (.int .i64 m)):
 Calls Tryz.prog 208 #[.slice (some bJ) n b2,.slice (some a2) k bX] w λe w'=>e=.returned (.int .i64 (Lib.index (Lib.bytesOf xs) (Lib.bytesOf cm)))/\∃q,w'=w.drewN q:=Any.bytes_Index_at Tryz.Sz bJ a2 n b2 k bX xs cm m w ak aN Bj pr DI oO rR an ai hm
end Go.Proofs
namespace Go
variable{p:Prop}
def al(h:p:=by omega):p:=h
def aG(h:p:=by kernel_rfl):p:=h
def bb(h:p:=by simp):p:=h
theorem bM(h:p:=by grind):p:=h
def cM(h:p:=by cases h):p:=h
def iz(h:p:=by simp[Op.operands]):p:=h
def s3(h:p:=by rw[fu,qR];omega):p:=h
def ps(h:p:=by rw[qR];omega):p:=h
def L9(h:p:=by show(do let vs<-fn.results.mapM (resRun a.tmps);pure (if h:vs.size=1 then vs[0]else .tuple vs):Sem Value).run P w=_;rw[LU];simp only[iL,Sem.run_map];rw[e6];rfl):p:=h
def ml(h:p:=by apply wR;simp):p:=h
def yO(h:p:=by simp only[e5,gw];omega):p:=h
def gn(h:p:=by decide):p:=h
def vp(h:p:=by rw[<-e];exact ah.used _ _ j1):p:=h
def GO(h:p:=by unfold pt;simp only[fu,e5,gw]):p:=h
def lu(h:p:=by simp;omega):p:=h
def lv(h:p:=by simp[ak]):p:=h
def L'(h:p:=by simp only[execOp,aw,resolve,invoke,builtin,hm,mm,iL,lW,jX,bu]):p:=h
theorem yP(h:p:=by simp_all[lx,ba]):p:=h
def wX(h:p:=by rw[aa]at ay;simpa using ay):p:=h
def k1(h:p:=by simp at h):p:=h
theorem DJ(h:p:=by grind[execOp,resolve,Deferred.ofValue,invoke]):p:=h
def qT(h:p:=by simpa using h):p:=h
def s4(h:p:=by rw[ay];exact hi):p:=h
def vq(h:p:=by simp[ByteArray.size]):p:=h
def yQ(h:p:=by rw[wQ];omega):p:=h
def vr(h:p:=by rw[dQ];exact hE):p:=h
theorem GP(h:p:=by obtain⟨r,aD⟩:=qU _ _ _ uk id hid;grind):p:=h
def s5(h:p:=by simpa using af):p:=h
theorem DK(h:p:=by simp_all[yR,hj,Bk,dU]):p:=h
def Bl(h:p:=by rw[mJ];omega):p:=h
theorem GQ(h:p:=by obtain⟨r,aD⟩:=qU _ _ _ ak id hid;grind):p:=h
def GR(h:p:=by rw[lZ es dd];exact dc _):p:=h
def GS(h:p:=by cases ak;exact⟨.inl dQ,ah.lt id g dQ⟩):p:=h
def GU(h:p:=by show fi.length<=_;rw[hw.len];exact ao):p:=h
def GV(h:p:=by simp only[qR];omega):p:=h
def vt(h:p:=by simpa using ao):p:=h
def GW(h:p:=by cases‹List (DataW H)›<;>exact h.elim):p:=h
def GX(h:p:=by cases v<;>first|rfl|(simp[nilB]at h)):p:=h
def wY(h:p:=by simpa using aa):p:=h
def DL(h:p:=by have:=ah.dF b an;simp;omega):p:=h
theorem Ma(h:p:=by grind[binOp,Sem.run_bind,Result.andThen_ok,Sem.run_pure]):p:=h
def SA(h:p:=by simp only[execOp,aw,resolve,ly,Deferred.ofValue];simp only[wT,invoke,LZ,pw];exact yS):p:=h
theorem Mb(h:p:=by grind[eI,yT,yU,px]):p:=h
def wZ(h:p:=by simpa using p6):p:=h
theorem p7(h:p:=by simp_all):p:=h
def GY(h:p:=by simp only[gw];omega):p:=h
def GZ(h:p:=by simp only[fu];rfl):p:=h
theorem yV(h:p:=by simp_all[yW]):p:=h
theorem SB(h:p:=by cases b<;>simp_all[py,ba,p2,wS];rw[h.1,Bm cs _ h.2]):p:=h
def vu(h:p:=by assumption):p:=h
def yX(h:p:=by simpa using hu):p:=h
def G0(h:p:=by simp;rw[ar.1,e6.1];exact p8):p:=h
def Bn(h:p:=by simp[c7,ag]):p:=h
def w2(h:p:=by cases aB;simp):p:=h
def yY(h:p:=by simpa using bO):p:=h
def SC(h:p:=by simp only[Op.operands,Call.operands,L0,gD];exact .inr ak):p:=h
def Bo(h:p:=by rw[e6.1];exact aJ):p:=h
def um(h:p:=by rw[aw];rfl):p:=h
def SD(h:p:=by simp[execOp,aw,h.eT,convert,cA an,cA aX,Conv.intToInt]):p:=h
def G1(h:p:=by rw[h.gf];exact VRels.nil):p:=h
def vv(h:p:=by simp[flat]):p:=h
theorem SE(h:p:=by simp_all[execOp,resolve,invoke,builtin,iL,lW,jX]):p:=h
theorem w3(h:p:=by grind[keys]):p:=h
def DM(h:p:=by simp[shOf,hu,dU]):p:=h
def DN(h:p:=by rw[hlen];exact ay):p:=h
def G2(h:p:=by simp only[maxLen];omega):p:=h
def SF(h:p:=by rw[fu];simp only[e5,gw];omega):p:=h
def G3(h:p:=by unfold p9;rw[w4,hw];rfl):p:=h
def SG(h:p:=by obtain⟨i,hi⟩:=List.exists_mem_of_ne_nil _ bO;exact⟨i,mem_rem.1 hi⟩):p:=h
theorem DO(h:p:=by simp_all[execOp]):p:=h
def SH(h:p:=by unfold w5 at af;simp only[ba,fD]at af;omega):p:=h
def SI(h:p:=by simp[execOp,aw,h.hO,convert,cA an,cA aX]):p:=h
def SJ(h:p:=by unfold ef at ah;simp only[ba,fD]at ah;omega):p:=h
def DP(h:p:=by cases ai;exact fj):p:=h
theorem SK(h:p:=by have:(i+1)*s.width<=es.length*s.width:=sW _ hi;grind):p:=h
def SL(h:p:=by cases ak;exact⟨.inl dQ,by simpa[World.setRow]using ah.lt id g dQ⟩):p:=h
def G4(h:p:=by rw[lz];exact .inl ag):p:=h
def yZ(h:p:=by simp[keys]):p:=h
def y0(h:p:=by cases h;rfl):p:=h
def SM(h:p:=by show 128<=((c.toNat:Int).toNat.toUInt8).toNat;simpa using aa):p:=h
def G5(h:p:=by rw[cV];exact ag):p:=h
def DQ(h:p:=by simpa using aL):p:=h
def Mc(h:p:=by simp[shOf,hu,Sh.cells,gg,fE]):p:=h
def Md(h:p:=by apply wR;simpa using h1):p:=h
def y1(h:p:=by simp[aN]):p:=h
theorem SN(h:p:=by cases b<;>grind[py,Bool.false_eq_true];rw[Bm cs _ h]):p:=h
def DR(h:p:=by simpa using an):p:=h
def y2(h:p:=by simp at aa):p:=h
theorem G6(h:p:=by grind[SO]):p:=h
theorem DS(h:p:=by grind[maxLen]):p:=h
def w6(h:p:=by cases aB):p:=h
def SP(h:p:=by simp only[Op.operands,uj];exact⟨p,au,rfl⟩):p:=h
def DT(h:p:=by simpa using ag):p:=h
def SQ(h:p:=by rw[Me _ _ _ _ r1,sZ (Ne.symm s6)];rfl):p:=h
def Mf(h:p:=by rw[Act.put_defers];exact h.df):p:=h
def DU(h:p:=by cases op<;>rfl):p:=h
def SR(h:p:=by simp[Bp,Row.force,AV.Mg,Mh rest]):p:=h
def SS(h:p:=by simp only[A3,lX];exact jL):p:=h
def SU(h:p:=by rw[show gs.length-(j+1)+1=gs.length-j by omega];exact bq):p:=h
def Mj(h:p:=by rw[fu];omega):p:=h
theorem SV(h:p:=by cases b<;>grind[py,Bool.false_eq_true,Nat.beq_eq];rw[h]):p:=h
def y5(h:p:=by simp[h.1]):p:=h
def SW(h:p:=by rw[lZ es dd,fR,kC];exact dc _):p:=h
theorem SX(h:p:=by obtain⟨au,v,sp,xs,dd,gh,bP,af,b6,e2⟩:=h;grind):p:=h
def G7(h:p:=by simp[rS,aH]):p:=h
def G8(h:p:=by simp+contextual):p:=h
def G9(h:p:=by show 2<3;decide):p:=h
def w7(h:p:=by rw[e]):p:=h
def G'(h:p:=by simpa using ak):p:=h
def Ha(h:p:=by simpa using ay):p:=h
def SY(h:p:=by simp[execOp,aw,h.eT,Op.unary,Op.intArith]):p:=h
def Bq(h:p:=by simp at hm):p:=h
def Hb(h:p:=by simpa using Hc):p:=h
def SZ(h:p:=by simp only[uj];exact⟨p,au,rfl⟩):p:=h
def S0(h:p:=by rw[b6.1,lZ _ lA,fu]):p:=h
def Hd(h:p:=by simpa using a7):p:=h
def S1(h:p:=by rw[getD_eq aL];exact p3 aL):p:=h
def Mk(h:p:=by rw[He];exact ay):p:=h
def S2(h:p:=by unfold p';split<;>first|rfl|(split<;>rfl)):p:=h
def S3(h:p:=by rw[Me _ _ _ _ aH,ha];rfl):p:=h
def Ml(h:p:=by unfold maxLen;omega):p:=h
def Mm(h:p:=by simpa using gV rfl):p:=h
def Hf(h:p:=by rw[jA];simp):p:=h
def Mn(h:p:=by rw[lz];exact .inr rfl):p:=h
def S4(h:p:=by rw[mJ];exact dc _):p:=h
def S5(h:p:=by rw[LW h]at aa;simp at aa):p:=h
def Hg(h:p:=by simpa using he):p:=h
def Mo(h:p:=by simp[aw,gi]at aa):p:=h
def Hh(h:p:=by simp[gg]at h):p:=h
def S6(h:p:=by show((ev g).map pz).length<=_;omega):p:=h
theorem S7(h:p:=by simp_all[execOp,resolve,invoke,builtin]):p:=h
def S8(h:p:=by rw[yU,cN _ _ ay];simp[qV]):p:=h
def Mp(h:p:=by rw[he]at h;simp at h):p:=h
def S9(h:p:=by rw[Go.Ev.Act.put_defers];exact ah.df):p:=h
def Ta(h:p:=by rw[(DB.1 ak).2];exact dV):p:=h
theorem Tb(h:p:=by simp_all[Instr.checkKey,cA]):p:=h
def Tc(h:p:=by simp[execOp,aw,h.oP,Op.unary]):p:=h
def Hi(h:p:=by simp[s7]at h):p:=h
def Hj(h:p:=by cases l<;>rfl):p:=h
def Mq(h:p:=by simpa[keys]using aJ):p:=h
def Mr(h:p:=by simpa using jL):p:=h
theorem Ms(h:p:=by grind[Mt]):p:=h
def Mu(h:p:=by rw[<-ai];refine aT (a' (aS (by simp only[e5,gw];omega))) ?_;refine aT (a' (ie (by omega) (by simp only[e5,gw];omega))) ?_;refine aT (a' (fY)) ?_;refine aT (a' (kD)) ?_;refine aT (a' (aS (by simp only[e5,gw];omega))) ?_;refine aT (a' (aV (Hk rfl (by simp only[e5,gw];omega) (by simp only[e5,gw];omega)) (aV (b9 _) (aV (aS ⟨by simp only[e5,gw];omega,by simp only[e5,gw];omega⟩) ig)))) ?_;rfl):p:=h
def Hl(h:p:=by refine aT (a' (aV (Hk rfl (by simp only[e5,gw];omega) (by simp only[e5,gw];omega)) (aV (b9 _) (aV (aS ⟨by simp only[e5,gw];omega,by simp only[e5,gw];omega⟩) (by simp only[lq,List.all_nil,Mv]at ig⊢;exact ig))))) ?_;rfl):p:=h
def Mw(h:p:=by refine aT (a' (aS (by simp only[e5,gw];omega))) ?_;refine aT (a' (aV (Hk rfl (by simp only[e5,gw];omega) (by simp only[e5,gw];omega)) (aV (aV (aS ⟨by simp only[e5,gw];omega,by simp only[e5,gw];omega⟩) (aV fY kD)) (aV (by simp only[lq,List.all_nil,Mv]at cu⊢;exact cu) ig)))) ?_;rfl):p:=h
def jo(h:p:=by rw[cZ (by omega),afe];rfl):p:=h
def Hm(h:p:=by exact fin false ((λd=>by simp[Op.equalIn,cA ‹P.underlying t=_›]:∀d,(Op.equalIn (d+1) t _ _).run P w=.ok _ w) 9999) (by cases op<;>rfl) λkE h=>⟨by simp only[binOp,iL,h,jX,lW],by simp only[binOp,iL,h,jX,lW]⟩):p:=h
def oQ(h:p:=by rw[cZ (by omega),vm];rfl):p:=h
def Hn(h:p:=by obtain⟨aU,bc,bw,bQ,bN⟩:=ew aL an;rw[j2 _ _ _ _ _ aL];simp only[aU,bc,bw,bQ,bN,b4,bK];rfl):p:=h
def l1(h:p:=by exact⟨S,β,og,ah,aY⟩):p:=h
theorem vw(h:p:=by obtain⟨_,h⟩:=e7 h;grind[i']):p:=h
def Td(h:p:=by exact fin true ((λd=>by simp[Op.equalIn,cA ‹P.underlying t=_›]:∀d,(Op.equalIn (d+1) t _ _).run P w=.ok _ w) 9999) (by cases op<;>rfl) λkE h=>⟨by simp only[binOp,iL,h,jX,lW],by simp only[binOp,iL,h,jX,lW]⟩):p:=h
def Ho(h:p:=by cases h;exact⟨λaa=>by simp[aw,changes]at aa,λaa=>by simp[aw,gi]at aa,qU _ _ _ au⟩):p:=h
def Hp(h:p:=by cases h;exact⟨λ_=>⟨rfl,rfl,rfl,rfl,rfl⟩,λaa=>by simp[aw,gi]at aa,qU _ _ _ au⟩):p:=h
def Mx(h:p:=by show lookup (setRow (mn st.rows id) x.2.2.1 r) x.1=_;rw[px,c0 My,y7,c0 (λe=>bO e.symm)];exact ag):p:=h
def Te(h:p:=by simp only[c9,eL,bne,aU,bc,bw,bQ,bN,fY,f0,f4,f5,oR,jM,ne,qW,s1,bo,qX,qY,ha,b9,n11,s8,z12,s9,n21,z21,z22,w8,n31,z31,z32,Hq,hx,k2,hy,w9,b4,cU,pq,lY,jz,bK];rfl):p:=h
def Tf(h:p:=by refine rT.wp gE bu λe w' au=>?_;obtain⟨u,v,cv,h',fN,rfl,ai,he,bO,hle,ar,dI,j3⟩:=au;exact⟨u,rfl,bg _ _ _ _ ai he (λid hid _=>bO id hid) hle (dI.act (Hr (ah.tm.mono he) o.dst ar) (by rw[Go.Ev.Act.put_defers];exact ah.df)) j3⟩):p:=h
def Tg(h:p:=by simp only[c9,eL,bne,aU,bc,bw,bQ,bN,fY,f0,f3,f4,oR,jM,ne,qW,s1,bo,qX,qY,ha,b9,n11,s8,z12,s9,n21,z21,z22,w8,hx,k2,hy,b4,cU,pq,lY,jz,bK];rfl):p:=h
def Th(h:p:=by simp only[c9,eL,bne,aU,bc,bw,bQ,bN,fY,f0,f2,f3,oR,jM,ne,qW,s1,bo,qX,qY,ha,b9,n11,s8,z12,s9,hx,k2,b4,cU,pq,lY,jz,bK];rfl):p:=h
def Mz(h:p:=by cases h;exact⟨λ_=>⟨rfl,rfl,rfl,rfl,rfl⟩,λaa=>by simp[aw,gi]at aa,λid h=>by simp at h⟩):p:=h
def Ti(h:p:=by simp only[c9,eL,bne,aU,bc,bw,bQ,bN,fY,f0,f1,f2,oR,jM,ne,qW,s1,bo,qX,qY,ha,b9,hx,b4,cU,pq,lY,jz,bK];rfl):p:=h
theorem Hs(h:p:=by simp_all[execOp,Instr.storeAt,Instr.sureAddr,storeVar,sizeOf,typeInfo]):p:=h
def y8(h:p:=by cases h;exact ar.hk λ_=>cr.left):p:=h
def Tj(h:p:=by refine aT (a' aU) (aT (a' bc) (aT (a' (aV af ao)) ?_));rw[bw];exact aT (a' bN) (aT (a' (aV bQ (mN ⟨cn,gx,a1⟩))) rfl)):p:=h
def Ht(h:p:=by refine aT (a' uo) ?_;refine aT (a' Hu) ?_;rfl):p:=h
def MA(h:p:=by simp only[hl,List.getD];rw[GI (by rw[oJ];omega)];rfl):p:=h
def Tk(h:p:=by rw[cZ (by omega),vm];show k _ _ [_,some (.arr false fv 5 out none)]=k _ _ [_,some (.arr false fv 5 (out++[]) none)];rw[jy]):p:=h
def Tl(h:p:=by refine aT (a' (aS (by omega))) (aT (a' (aV (b9 _) (aV (b9 _) (aS (by omega))))) ?_);rfl):p:=h
def Tm(h:p:=by obtain⟨hle,ak⟩:=Hv _ _ _ _ aD;obtain⟨rU,rfl⟩:∃rU,id=aE+rU:=⟨id-aE,by omega⟩;rw[A6]at ak;exact rV rU r ak):p:=h
def Hw(h:p:=by exact qa (rows:=rows) (MB depth) _ _ au id hid):p:=h
def Tn(h:p:=by exact wp_value (lB _ _ bu) (bg _ _ _ aN ⟨S,β,og,dI.put o.dst (.undef _),aY.grownBy ah.dZ hE (λk ai=>by cases ai;exact fj)⟩)):p:=h
theorem MC(h:p:=by simp_all[execOp,Instr.sliceAt,cA,Instr.slice,sizeOf,typeInfo]):p:=h
def Br(h:p:=by rw[af,ao];exact .inl ⟨rfl,rfl⟩):p:=h
def To(h:p:=by rw[cZ (by omega),vm];show k _ _ _=k _ _ [_,some (.arr false (.int .u8) 5 (out++[]) none)];rw[jy]):p:=h
theorem Tp(h:p:=by have cp:=λc=>Go.Ev.run_sliceBound (P:=P) (w:=w) (k:=k) (n:=l) (m:=n.toNat) c (by omega) (by omega);simp_all[Instr.sliceBounds]):p:=h
theorem Tq(h:p:=by obtain⟨_,h⟩:=e7 h;cases h;exact⟨λaa=>by grind[changes],λaa=>by simp[aw,gi]at aa,λid h=>by simp at h⟩):p:=h
def Bs(h:p:=by rename_i ar;rw[ar]at au;cases au):p:=h
def Tr(h:p:=by show VRels w S β _ (args.toArray++Array.replicate (fn.ntmps-args.toArray.size) undef).toList;rw[this];exact ar.append (xa _)):p:=h
def Ts(h:p:=by show k _ [_,_,_] [some (.arr false .str 9 out none)]=k _ [_,_,_] [some (.arr false .str 9 (out++[]) none)];rw[jy]):p:=h
def Tt(h:p:=by exact aT (a' bN) (aT (a' (aV rfl (aV bQ (aV cn (aV k3 (mN ⟨xb,cG⟩)))))) rfl)):p:=h
def MD(h:p:=by simp only[Act.put];congr 1;rw[<-xc];exact aff DV):p:=h
def Hx(h:p:=by exact⟨λ_ _=>trivial,bg _ _ (skip h)⟩):p:=h
def DW(h:p:=by intro c aa;simp at aa;subst aa;rfl):p:=h
def Tu(h:p:=by show(gy es an.length).length+(an.length-Int.toNat 0)*30000<=80000000;rw[qb];have:Int.toNat 0=0:=rfl;omega):p:=h
def Tv(h:p:=by cases h;exact⟨λaa=>by simp[aw,changes]at aa,λaa=>by simp[aw,gi]at aa,λid h=>by simp at h⟩):p:=h
def Tw(h:p:=by exact⟨_,_,h,.bool _ _,by simp only[GJ,wT,binOp,Op.stringOp,toList_mk];rfl⟩):p:=h
def Tx(h:p:=by simp only[execOp,aw,resolve,invoke,builtin,hm,mm,iL,lW,jX,bu]):p:=h
theorem Ty(h:p:=by exact⟨_,_,h,.bool _ _,by simp_all[GJ,wT,binOp,Op.stringOp,toList_mk]⟩):p:=h
def Tz(h:p:=by exact((b6.take (i*s.width)).append (gp.eM e6 off)).append (b6.drop (i*s.width+s.width))):p:=h
def TA(h:p:=by have qZ:(fk aA rows).run (λq=>k q.1 q.2.1 q.2.2)=some r:=hF;rw[dw]at qZ;cases qZ):p:=h
def TB(h:p:=by exact wp_value (lB _ _ bu) (bg _ _ _ aN ⟨S,β,og,dI.put o.dst (.undef _),aY⟩)):p:=h
def TC(h:p:=by have qZ:(fk aA rows).run (λq=>k q.1 q.2.1 q.2.2)=some r:=hF;rw[e]at qZ;cases qZ):p:=h
def Hy(h:p:=by rw[cZ (by omega)];rfl):p:=h
def TD(h:p:=by rw[fl _ _ _ _ e]at aB;rw[fl _ _ _ _ e']at dK;exact ep.inj _ _ _ aB dK):p:=h
def TE(h:p:=by exact aV (aS (by show((ev g).map pz).length<=_;omega)) (afg uq)):p:=h
theorem TF(h:p:=by show(lC st.1 st.2.1 (fZ g) (ev g) (fS g) (fT g) (fw g) 0).1.length+m<=3;grind):p:=h
def TG(h:p:=by simp[execOp,aw,resolve,invoke,builtin,hm,Builtin.len_,xd,cA aQ,goInt]):p:=h
def TH(h:p:=by simp only[callFunc,iL,vk,jX,dW];simp[gE,Hz]):p:=h
theorem TI(h:p:=by simp_all[execOp,Instr.buildSlice,cA,sizeOf,typeInfo,zeroValue,newRow]):p:=h
def TJ(h:p:=by simp[execOp,aw,h.hO,h'.eT,Instr.index,asIntOf,cA aQ,jB,aB]):p:=h
def TK(h:p:=by rw[GI (by rw[this];exact List.getElem?_eq_none_iff.1 aP)];rfl):p:=h
theorem TL(h:p:=by show(lC st.1 st.2.1 (fZ g) (ev g) (fS g) (fT g) (fw g) 0).2.1+m<=3;grind):p:=h
def Bt(h:p:=by exact TM _ _ h):p:=h
def ME(h:p:=by rw[aS af,aS ao];rfl):p:=h
def TN(h:p:=by exact((List.prefix_append acc [i]).trans (aR _ _)).trans (Bu aR is _)):p:=h
def TO(h:p:=by exact aT (a' aU) (aT (a' bc) (aT (a' rfl) rfl))):p:=h
def TP(h:p:=by exact⟨λy d=>by rw[cp];exact h.un y d,λd=>by rw[cp];exact h.rW d⟩):p:=h
theorem TQ(h:p:=by exact⟨_,_,h,.bool _ _,by simp_all[GJ,binOp,Op.stringOp]⟩):p:=h
def TR(h:p:=by refine aT (a' rfl) ?_;rw[b4,aS (by omega)];rfl):p:=h
def HA(h:p:=by cases h;exact .inl ⟨_,rfl⟩):p:=h
def TS(h:p:=by rw[fl _ _ _ _ e]at aN;exact oK _ (h.used i y aN)):p:=h
def TT(h:p:=by rw[ih,aU,bc,Gz,St];simp):p:=h
def MF(h:p:=by rw[MG]at this;exact⟨S,_,_,this,aY⟩):p:=h
def TU(h:p:=by intro b ag;obtain⟨u,hu,ar⟩:=pA _ ag (by simp);rw[hu,ar.oP]):p:=h
def TV(h:p:=by intro ag;obtain⟨u,hu,ar⟩:=pA _ ag (by simp);rw[hu];cases ar;rfl):p:=h
def TW(h:p:=by rw[TX aD hi,ao]at ar;simp at ar;exact aJ (by simpa using ar)):p:=h
theorem MH(h:p:=by simp only[ur,Bv]at h;grind):p:=h
theorem TY(h:p:=by rename_i s aQ ak;obtain⟨ag,h⟩:=e7 h;grind[TZ]):p:=h
def T0(h:p:=by simp only[Sh.cells,gg,fE,oL];exact MI n e n3):p:=h
theorem T1(h:p:=by simp_all[cP,Option.map,val,run_sliceBound,Instr.sliceBounds]):p:=h
def T2(h:p:=by rename_i aB;simp only[Region.wanted,aB,kn];exact run h K bg):p:=h
def T3(h:p:=by rw[oM]at rX;subst rX;exact afh g g aw hy rfl):p:=h
theorem T4(h:p:=by simp_all[iZ,gv,y9,lD,dE]):p:=h
theorem T5(h:p:=by refine⟨_,_,h,.bool _ _,?_⟩;simp_all[eqGuard_at_bool,binOp]):p:=h
def T6(h:p:=by exact⟨rfl,⟨rfl,rfl,rfl,dc _,λ_ _=>rfl⟩⟩):p:=h
theorem MJ(h:p:=by grind[eI,yT,apply]):p:=h
end Go
namespace Go.Ev
variable{aj:Type}
inductive Sh where
 |int (k:IntKind)
 |bool
 |str
 |slice (s:Sh)
 |agg (l:List Sh)
 |other
 deriving Inhabited
mutual
def Sh.beq:Sh->Sh->Bool
 |.int k,.int cl=>decide (k=cl)
 |.bool,.bool=>true
 |.str,.str=>true
 |.slice s,.slice fF=>Sh.beq s fF
 |.agg l,.agg gW=>Sh.q0 l gW
 |_,_=>false
def Sh.q0:List Sh->List Sh->Bool
 |[],[]=>true
 |a::l,b::gW=>Sh.beq a b&&Sh.q0 l gW
 |_,_=>false
end
def Sh.cells:Sh->List Sh
 |.agg l=>l
 |s=>[s]
def Sh.width(s:Sh):Nat:=s.cells.length
def shOf(P:Program):Nat->TypeId->Sh
 |0,_=>.other
 |n+1,t=>
  match P.underlying t with
  |some (.int k)=>.int k
  |some .bool=>.bool
  |some .string=>.str
  |some (.slice e)=>.slice (shOf P n e)
  |some (.struct aC)=>.agg (aC.toList.flatMap λf=>(shOf P n f.type).cells)
  |some (.array m e)=>.agg ((List.replicate m (shOf P n e).cells).flatten)
  |_=>.other
def depth:Nat:=12
inductive AV where
 |J
 |undef
 |int (k:IntKind) (n:Int)
 |bool (b:Bool)
 |jC
 |nl
 |str (s:List UInt8)
 |agg (cs:List AV)
 |tup (cs:List AV)
 |ab (s:Sh) (es:List AV)
 |bf (s:Sh)
 |hP (s:Sh) (es:List AV) (i off:Nat)
 |ref (cs:List AV)
 |lE (t:Nat) (cs:List AV)
 |ct (es:List AV)
 |lF
 |ptr (id off:Nat)
 |eptr (id i off:Nat)
 |own (id:Nat)
 |sub (id lo len:Nat)
 |fn (f:Nat) (gF:List AV)
 deriving Inhabited
def AV.toInt:AV->Int
 |.int _ n=>n
 |_=>0
def AV.toBool:AV->Bool
 |.bool b=>b
 |_=>false
def AV.toStr:AV->List UInt8
 |.str s=>s
 |_=>[]
def AV.toList:AV->List AV
 |.ab _ es=>es
 |_=>[]
def AV.cells:AV->List AV
 |.agg cs=>cs
 |v=>[v]
def AV.cell(v:AV)(j:Nat):AV:=v.cells.getD j .J
def DX:Sh->AV->AV
 |.int k,v=>.int k v.toInt
 |.bool,v=>.bool v.toBool
 |.str,v=>.str v.toStr
 |.slice s,v=>.ab s v.toList
 |_,v=>v
def Bk:List Sh->List AV->List AV
 |[],_=>[]
 |s::l,cs=>DX s (cs.headD .J)::Bk l cs.tail
def hj(s:Sh)(v:AV):List AV:=Bk s.cells v.cells
def dU(s:Sh)(cs:List AV):AV:=
 match s with
 |.agg _=>.agg cs
 |_=>cs.headD .J
def fE:Sh->AV->Bool
 |.int k,.int cl _=>decide (k=cl)
 |.bool,.bool _=>true
 |.str,.str _=>true
 |.slice s,.ab fF _=>Sh.beq s fF
 |.slice s,.bf fF=>Sh.beq s fF
 |.other,.fn _ _=>true
 |.other,.nl=>true
 |_,_=>false
def gg:List Sh->List AV->Bool
 |[],[]=>true
 |s::l,c::cs=>fE s c&&gg l cs
 |_,_=>false
def cb(s:Sh)(v:AV):Bool:=
 match s,v with
 |.agg l,.agg cs=>gg l cs
 |.agg _,_=>false
 |s,v=>fE s v
inductive Row where
 |box (bW:Bool) (cs:List AV)
 |arr (bW:Bool) (s:Sh) (e:TypeId) (es:List AV) (sp:Option (List AV))
 |cj (bW:Bool) (s:Sh) (e:TypeId) (pre:List AV) (cs:List AV) (post:List AV)
 deriving Inhabited
structure bC where
 tm:List AV
 rows:List (Nat×Row)
 used:List Nat
inductive Ex where
 |normal
 |exit (id:Nat)
 |ret
def lookup(rows:List (Nat×Row))(id:Nat):Option Row:=
 match rows with
 |[]=>none
 |(i,r)::rest=>if i=id then some r else lookup rest id
def mn(rows:List (Nat×Row))(id:Nat):List (Nat×Row):=
 match rows with
 |[]=>[]
 |(i,x)::rest=>if i=id then mn rest id else(i,x)::mn rest id
def setRow(rows:List (Nat×Row))(id:Nat)(r:Row):List (Nat×Row):=
 match rows with
 |[]=>[(id,r)]
 |(i,x)::rest=>if i=id then(i,r)::rest else(i,x)::setRow rest id r
def DY:Value->AV
 |.int k n=>.int k n
 |.bool b=>.bool b
 |.string s=>.str s.data.toList
 |_=>.J
def afi:Sh->AV
 |.int k=>.int k 0
 |.bool=>.bool false
 |.str=>.str []
 |.slice s=>.bf s
 |_=>.J
def zeroCells(s:Sh):List AV:=s.cells.map afi
def val(tm:List AV):Operand->AV
 |.tmp t=>tm.getD t .J
 |.const v=>DY v
 |.func f=>.fn f []
 |.global _=>.J
def put(st:bC)(dst:Option Tmp)(v:AV):bC:=
 match dst with
 |some d=>{st with tm:=st.tm.set d v}
 |none=>st
mutual
def AV.afj:AV->Bool
 |.ptr .. |.eptr .. |.own .. |.sub .. |.J=>false
 |.agg cs|.tup cs|.fn _ cs=>AV.T7 cs
 |_=>true
def AV.T7:List AV->Bool
 |[]=>true
 |c::cs=>c.afj&&AV.T7 cs
end
mutual
def AV.flat:AV->Bool
 |.int .. |.bool _|.str _|.undef|.nl=>true
 |.agg cs|.tup cs=>AV.xe cs
 |_=>false
def AV.xe:List AV->Bool
 |[]=>true
 |c::cs=>c.flat&&AV.xe cs
end
mutual
def AV.only(ids:List Nat):AV->AV
 |.ptr i o=>if ids.contains i then .ptr i o else .J
 |.eptr i j o=>if ids.contains i then .eptr i j o else .J
 |.own i=>if ids.contains i then .own i else .J
 |.sub i lo n=>if ids.contains i then .sub i lo n else .J
 |.agg cs=>.agg (AV.qc ids cs)
 |.tup cs=>.tup (AV.qc ids cs)
 |.fn f cs=>.fn f (AV.qc ids cs)
 |v=>v
def AV.qc(ids:List Nat):List AV->List AV
 |[]=>[]
 |c::cs=>c.only ids::AV.qc ids cs
end
def Row.only(ids:List Nat):Row->Row
 |.box i cs=>.box i (AV.qc ids cs)
 |.cj i s e p cs q=>.cj i s e p (AV.qc ids cs) q
 |r=>r
mutual
def AV.MK:AV->AV
 |.bf s=>.ab s []
 |.agg cs=>.agg (AV.lG cs)
 |.tup cs=>.tup (AV.lG cs)
 |v=>v
def AV.lG:List AV->List AV
 |[]=>[]
 |c::cs=>c.MK::AV.lG cs
end
mutual
def AV.force{α:Type}:AV->(AV->α)->α
 |.J,k=>k .J
 |.undef,k=>k .undef
 |.int a b,k=>k (.int a b)
 |.bool b,k=>k (.bool b)
 |.jC,k=>k .jC
 |.nl,k=>k .nl
 |.str s,k=>k (.str s)
 |.agg cs,k=>AV.qd cs λea=>k (.agg ea)
 |.tup cs,k=>AV.qd cs λea=>k (.tup ea)
 |.ab s es,k=>k (.ab s es)
 |.bf s,k=>k (.bf s)
 |.hP s es i off,k=>k (.hP s es i off)
 |.ref cs,k=>AV.qd cs λea=>k (.ref ea)
 |.lE t cs,k=>AV.qd cs λea=>k (.lE t ea)
 |.ct es,k=>k (.ct es)
 |.lF,k=>k .lF
 |.ptr id off,k=>k (.ptr id off)
 |.eptr id i off,k=>k (.eptr id i off)
 |.own id,k=>k (.own id)
 |.sub id lo n,k=>k (.sub id lo n)
 |.fn f cs,k=>AV.qd cs λea=>k (.fn f ea)
def AV.qd{α:Type}:List AV->(List AV->α)->α
 |[],k=>k []
 |c::cs,k=>c.force λc'=>AV.qd cs λea=>k (c'::ea)
end
def Row.force{α:Type}:Row->(Row->α)->α
 |.box i cs,k=>AV.qd cs λea=>k (.box i ea)
 |.arr i s e es sp,k=>k (.arr i s e es sp)
 |.cj i s e p cs q,k=>AV.qd cs λea=>k (.cj i s e p ea q)
def Bp{α:Type}:List (Nat×Row)->(List (Nat×Row)->α)->α
 |[],k=>k []
 |(i,r)::rest,k=>r.force λjq=>Bp rest λBw=>k ((i,jq)::Bw)
def DZ{α:Type}:List Nat->(List Nat->α)->α
 |[],k=>k []
 |i::l,k=>DZ l λgW=>k (i::gW)
def bC.force{α:Type}(st:bC)(k:bC->α):α:=AV.qd st.tm λtm=>Bp st.rows λrows=>DZ st.used λused=>k ⟨tm,rows,used⟩
def dp(f:AV->Option (AV×List Nat)):List AV->Option (List AV×List Nat)
 |[]=>some ([],[])
 |c::cs=>
  match f c with
  |none=>none
  |some p=>match dp f cs with
   |none=>none
   |some q=>some (p.1::q.1,p.2++q.2)
def cB(rows:List (Nat×Row)):Nat->AV->Option (AV×List Nat)
 |0,_=>none
 |n+1,v=>
  match v with
  |.ptr id off=>
   match lookup rows id with
   |some (.box _ cs)=>(dp (cB rows n) cs).map λp=>(.ref (p.1.drop off),id::p.2)
   |_=>none
  |.eptr id i off=>
   match lookup rows id with
   |some (.arr _ s _ es _)=>if i<es.length then some (.hP s es i off,[id])else none
   |_=>none
  |.own id=>
   match lookup rows id with
   |some (.arr _ s _ es _)=>some (.ab s es,[id])
   |some (.cj _ s _ pre cs post)=>
    match dp (cB rows n) cs with
    |some p=>if cb s (dU s p.1)then some (.ab s (pre++dU s p.1::post),id::p.2)else none
    |none=>none
   |_=>none
  |.sub id lo n=>
   match lookup rows id with
   |some (.arr _ s _ es _)=>if lo+n<=es.length then some (.ab s ((es.drop lo).take n),[id])else none
   |_=>none
  |.J=>none
  |.agg cs=>(dp (cB rows n) cs).map λp=>(.agg p.1,p.2)
  |.tup cs=>(dp (cB rows n) cs).map λp=>(.tup p.1,p.2)
  |.fn f cs=>(dp (cB rows n) cs).map λp=>(.fn f p.1,p.2)
  |v=>some (v,[])
def aE:Nat:=1125899906842624
def bY:Nat:=2251799813685248
mutual
def AV.iN(m:Nat->Option Nat):AV->AV
 |.ptr i o=>match m i with
  |some j=>.ptr j o
  |none=>.J
 |.eptr i k o=>match m i with
  |some j=>.eptr j k o
  |none=>.J
 |.own i=>match m i with
  |some j=>.own j
  |none=>.J
 |.sub i lo n=>match m i with
  |some j=>.sub j lo n
  |none=>.J
 |.agg cs=>.agg (AV.nt m cs)
 |.tup cs=>.tup (AV.nt m cs)
 |.fn f cs=>.fn f (AV.nt m cs)
 |v=>v
def AV.nt(m:Nat->Option Nat):List AV->List AV
 |[]=>[]
 |c::cs=>c.iN m::AV.nt m cs
end
def Row.iN(m:Nat->Option Nat):Row->Row
 |.box i cs=>.box i (AV.nt m cs)
 |.cj i s e p cs q=>.cj i s e p (AV.nt m cs) q
 |r=>r
def Row.forget:Row->Row
 |.arr i s e es _=>.arr i s e es none
 |r=>r
mutual
def AV.refs:AV->List Nat
 |.ptr i _=>[i]
 |.eptr i _ _=>[i]
 |.own i=>[i]
 |.sub i _ _=>[i]
 |.agg cs=>AV.rY cs
 |.tup cs=>AV.rY cs
 |.fn _ cs=>AV.rY cs
 |_=>[]
def AV.rY:List AV->List Nat
 |[]=>[]
 |c::cs=>c.refs++AV.rY cs
end
def idx:List Nat->Nat->Option Nat
 |[],_=>none
 |x::l,i=>if i=x then some 0 else(idx l i).map (·+1)
def ij(rows:List (Nat×Row)):Nat->AV->Option (AV×List Nat)
 |0,_=>none
 |n+1,v=>
  match v with
  |.ptr id off=>
   match lookup rows id with
   |some (.box false _)=>some (.ptr id off,[])
   |some (.box true _)=>cB rows depth (.ptr id off)
   |_=>none
  |.eptr id i off=>
   match lookup rows id with
   |some (.arr false ..)=>some (.eptr id i off,[])
   |some (.arr true ..)=>cB rows depth (.eptr id i off)
   |some (.cj false ..)=>some (.eptr id i off,[])
   |_=>none
  |.own id=>
   match lookup rows id with
   |some (.arr false ..)=>some (.own id,[])
   |some (.arr true ..)=>cB rows depth (.own id)
   |some (.cj false ..)=>some (.own id,[])
   |some (.cj true ..)=>cB rows depth (.own id)
   |some (.box false _)=>some (.own id,[])
   |_=>none
  |.sub id lo m=>
   match lookup rows id with
   |some (.arr false ..)=>some (.sub id lo m,[])
   |some (.arr true ..)=>cB rows depth (.sub id lo m)
   |_=>none
  |.agg cs=>(dp (ij rows n) cs).map λp=>(.agg p.1,p.2)
  |.tup cs=>(dp (ij rows n) cs).map λp=>(.tup p.1,p.2)
  |.fn f cs=>(dp (ij rows n) cs).map λp=>(.fn f p.1,p.2)
  |v=>some (v,[])
def qe(rows:List (Nat×Row))(f:List AV->List Nat->List Nat):List Nat->List Nat->List Nat
 |[],acc=>acc
 |i::is,acc=>
  if acc.contains i then qe rows f is acc else
  match lookup rows i with
  |some (.box false cs)=>qe rows f is (f cs (acc++[i]))
  |some (.arr false ..)=>qe rows f is (acc++[i])
  |some (.cj false _ _ _ cs _)=>qe rows f is (f cs (acc++[i]))
  |_=>qe rows f is acc
def reach(rows:List (Nat×Row)):Nat->List AV->List Nat->List Nat
 |0,_,acc=>acc
 |n+1,aA,acc=>qe rows (reach rows n) (AV.rY aA) acc
def nodupB:List Nat->Bool
 |[]=>true
 |i::is=> !is.contains i&&nodupB is
def q2(rows:List (Nat×Row)):List Nat->Option (List Row×List Nat)
 |[]=>some ([],[])
 |i::is=>
  match q2 rows is with
  |none=>none
  |some q=>
   match lookup rows i with
   |some (.box false cs)=>
    match dp (ij rows depth) cs with
    |some p=>some (.box false p.1::q.1,p.2++q.2)
    |none=>none
   |some (.arr false s e es sp)=>some (.arr false s e es sp::q.1,q.2)
   |some (.cj false s e pre cs post)=>
    match dp (ij rows depth) cs with
    |some p=>some (.cj false s e pre p.1 post::q.1,p.2++q.2)
    |none=>none
   |_=>none
def ik(b:Nat):List Row->List (Nat×Row)
 |[]=>[]
 |r::rs=>(b,r)::ik (b+1) rs
def nilB:Value->Bool
 |.nilFunc|.pointer none|.map none|.nilIface|.chan none=>true
 |_=>false
def p'(s:Sh):Value->AV
 |.int k n=>.int k n
 |.bool b=>.bool b
 |.string x=>.str x.data.toList
 |.slice none 0 0=>match s with
  |.slice fF=>.bf fF
  |_=>.J
 |v=>if nilB v then .nl else .J
def xf:List Sh->List Value->List AV
 |_,[]=>[]
 |l,v::vs=>p' (l.headD .other) v::xf l.tail vs
def oS(s:Sh):Value->AV
 |.agg cs=>if cs.toList.all Value.oneCell' then .agg (xf s.cells cs.toList)else .J
 |.tuple vs=>if vs.size=0 then .undef else .J
 |v=>p' s v
def cw(P:Program)(tm:List AV)(t:TypeId):Operand->AV
 |.tmp n=>tm.getD n .J
 |.const v=>oS (shOf P depth t) v
 |.func f=>.fn f []
 |.global _=>.J
def isAggT(P:Program)(t:TypeId):Bool:=
 match P.underlying t with
 |some (.struct _)=>true
 |some (.array _ _)=>true
 |_=>false
def AV.laidB:AV->Bool
 |.J|.undef|.tup _|.ct _=>false
 |_=>true
def eM(cs:List AV)(off:Nat)(new:List AV):List AV:=cs.take off++new++cs.drop (off+new.length)
def inb(n:Int)(m:Nat):Bool:=decide (0<=n)&&decide (n<m)
def slb(l h:Int)(m:Nat):Bool:=decide (0<=l)&&(decide (l<=h)&&decide (h<=m))
def roomB(n bytes:Nat):Bool:=(decide (n*bytes<=140737488355328)||(decide (bytes=1)&&decide (n<=150000000000000)))&&decide (n<=4611686018427387904)
def lenB(n:Nat):Bool:=decide (n<=9223372036854775807)
def Row.freeze:Row->Row
 |.box _ cs=>.box true cs
 |.arr _ s e es sp=>.arr true s e es sp
 |.cj _ s e p cs q=>.cj true s e p cs q
def il(ids:List Nat):List (Nat×Row)->List (Nat×Row)
 |[]=>[]
 |(i,r)::rest=>(i,if ids.contains i then r.freeze else r)::il ids rest
def fieldOf(P:Program)(t:TypeId)(f:Nat):Option Field:=
 match P.underlying t with
 |some (.struct aC)=>aC[f]?
 |_=>none
def Bx(place:Nat->Option (Nat×Nat))(cells:List AV):List (Nat×AV)->Option (List AV)
 |[]=>some cells
 |(i,v)::rest=>
  match place i with
  |none=>none
  |some p=>if v.laidB&&(v.cells.length==p.2&&Nat.ble (p.1+v.cells.length) cells.length)then Bx place (eM cells p.1 v.cells) rest else none
def q3(P:Program)(t:TypeId):Option (List AV):=
 match P.info? t with
 |some i=>match i.zero with
  |some v=>if(oS (shOf P depth t) v).laidB then some (oS (shOf P depth t) v).cells else none
  |none=>none
 |none=>none
def D0(P:Program)(t:TypeId)(i:Nat):TypeId:=
 match P.underlying t with
 |some (.struct aC)=>((aC[i]?).map (·.type)).getD 0
 |some (.array _ e)=>e
 |some (.slice e)=>e
 |_=>0
def partsKnown(P:Program)(t:TypeId):Bool:=
 match P.underlying t with
 |some (.struct aC)=>aC.toList.all λf=>(P.info? f.type).isSome
 |some (.array _ e)=>(P.info? e).isSome
 |_=>false
def placeOf(P:Program)(t:TypeId)(i:Nat):Option (Nat×Nat):=
 match P.underlying t with
 |some (.struct aC)=>(aC[i]?).map λf=>(f.offset,P.cellsOf f.type)
 |some (.array _ e)=>some (i*P.cellsOf e,P.cellsOf e)
 |_=>none
def By(s:Sh)(es:List AV):List (Nat×AV)->Option (List AV)
 |[]=>some es
 |(i,v)::rest=>if cb s v&&Nat.blt i es.length then By s (es.set i v) rest else none
def s7(P:Program):List Field->Nat->List AV->List AV->Option Bool
 |[],_,[],[]=>some true
 |f::aC,n,c::cs,d::ds=>
  if(f.name != "_")&&(f.offset==n)then
   match P.underlying f.type,c,d with
   |some (.int _),.int k a,.int cl b=>if k=cl then(match s7 P aC (n+1) cs ds with|some r=>some ((a==b)&&r)|none=>none)else none
   |some .bool,.bool a,.bool b=>(match s7 P aC (n+1) cs ds with|some r=>some ((a==b)&&r)|none=>none)
   |some .string,.str a,.str b=>(match s7 P aC (n+1) cs ds with|some r=>some ((a==b)&&r)|none=>none)
   |_,_,_=>none
  else none
 |_,_,_,_=>none
def T8(P:Program)(t:TypeId)(cs ds:List AV):Option Bool:=
 match P.underlying t with
 |some (.struct aC)=>if !P.stoodInHeld t&& !P.eqGuardType P.depth t then s7 P aC.toList 0 cs ds else none
 |_=>none
def binInt(op:BinOp)(k:IntKind)(a b:Int)(y:AV->Option aj):Option aj:=
 match op with
 |.add=>y (.int k (k.wrap (a+b)))
 |.sub=>y (.int k (k.wrap (a-b)))
 |.mul=>y (.int k (k.wrap (a*b)))
 |.quo=>bif decide (b=0)then none else y (.int k (k.wrap (a.tdiv b)))
 |.rem=>bif decide (b=0)then none else y (.int k (a.tmod b))
 |.and=>y (.int k (k.wrap (BitVec.ofInt k.bits a&&&BitVec.ofInt k.bits b).toNat))
 |.or=>y (.int k (k.wrap (BitVec.ofInt k.bits a|||BitVec.ofInt k.bits b).toNat))
 |.xor=>y (.int k (k.wrap (BitVec.ofInt k.bits a^^^BitVec.ofInt k.bits b).toNat))
 |.eql=>y (.bool (a==b))
 |.neq=>y (.bool (a !=b))
 |.lss=>y (.bool (decide (a<b)))
 |.leq=>y (.bool (decide (a<=b)))
 |.gtr=>y (.bool (decide (a>b)))
 |.geq=>y (.bool (decide (a>=b)))
 |_=>none
def binShift(op:BinOp)(k:IntKind)(a b:Int)(y:AV->Option aj):Option aj:=
 match op with
 |.shl=>bif decide (b<0)then none else y (.int k (k.wrap (a*2^ (min b.toNat k.bits))))
 |.shr=>bif decide (b<0)then none else y (.int k (a.fdiv (2^ (min b.toNat k.bits))))
 |_=>none
def binStr(op:BinOp)(a b:List UInt8)(y:AV->Option aj):Option aj:=
 match op with
 |.add=>bif lenB (a.length+b.length)then y (.str (a++b))else none
 |.eql=>y (.bool (a==b))
 |.neq=>y (.bool !(a==b))
 |.lss=>y (.bool (Op.bytesLess a b))
 |.leq=>y (.bool (Op.bytesLess a b||a==b))
 |.gtr=>y (.bool !(Op.bytesLess a b||a==b))
 |.geq=>y (.bool !(Op.bytesLess a b))
 |_=>none
def evBin(P:Program)(op:BinOp)(t:TypeId)(x z:AV)(y:AV->Option aj):Option aj:=
 match x,z with
 |.int k a,.int cl b=>
  match op with
  |.shl|.shr=>binShift op k a b y
  |_=>if k=cl then binInt op k a b y else none
 |.str a,.str b=>binStr op a b y
 |.bool a,.bool b=>
  match P.underlying t with
  |some .bool=>
   match op with
   |.eql=>y (.bool (a==b))
   |.neq=>y (.bool !(a==b))
   |_=>none
  |_=>none
 |.agg cs,.agg ds=>
  match T8 P t cs ds with
  |some r=>
   match op with
   |.eql=>y (.bool r)
   |.neq=>y (.bool !r)
   |_=>none
  |none=>none
 |_,_=>none
def vx:Operand->Bool
 |.const (.slice none 0 0)=>true
 |_=>false
def s'(P:Program)(op:BinOp)(t:TypeId)(x:AV)(y:AV->Option aj):Option aj:=
 match P.underlying t,x with
 |some (.slice _),.ab _ es=>
  match op with
  |.eql=>bif es.isEmpty then y .jC else y (.bool false)
  |.neq=>bif es.isEmpty then y .jC else y (.bool true)
  |_=>none
 |some (.slice _),.lF=>
  match op with
  |.eql=>y (.bool true)
  |.neq=>y (.bool false)
  |_=>none
 |_,_=>none
def minInt(k:IntKind)(x:Int):List AV->Option Int
 |[]=>some x
 |.int cl y::l=>if k=cl then minInt k (if y<x then y else x) l else none
 |_=>none
def maxInt(k:IntKind)(x:Int):List AV->Option Int
 |[]=>some x
 |.int cl y::l=>if k=cl then maxInt k (if y>x then y else x) l else none
 |_=>none
abbrev Summ:=(aj:Type)->List AV->(AV->Option aj)->Option aj
abbrev jD:=(aj:Type)->List AV->List Row->(AV->List (Option Row)->List Row->Option aj)->Option aj
structure Env where
 pure:List (Nat×Summ)
 opens:List (Nat×jD):=[]
 D1:Bool:=false
 ext:List Nat:=[]
 fork:Bool:=false
 conv:Bool:=false
 hole:Bool:=false
 j4:List (Nat×Int×Nat):=[]
 iq:Option (Int×Nat×jD):=none
 vy:Nat:=0
 D2:List Nat:=[]
 cut:List Nat:=[]
def lH.{u}{α:Type u}(l:List (Nat×α))(f:Nat):Option α:=
 match l with
 |[]=>none
 |(i,F)::rest=>if i=f then some F else lH rest f
def find(aq:Env)(f:Nat):Option Summ:=lH aq.pure f
def q4(aq:Env)(f:Nat):Option jD:=lH aq.opens f
def hz(P:Program)(tm:List AV):List TypeId->List Operand->List AV
 |t::ae,x::xs=>cw P tm t x::hz P tm ae xs
 |[],x::xs=>val tm x::hz P tm [] xs
 |_,[]=>[]
def cP:Option AV->Int->Int
 |some v,_=>v.toInt
 |none,d=>d
def k4:Option AV->Bool
 |some (.int _ _)=>true
 |none=>true
 |_=>false
def ta(rows:List (Nat×Row)):AV->Option (Sh×List AV)
 |.ab s es=>some (s,es)
 |.bf s=>some (s,[])
 |.own id=>match lookup rows id with
  |some (.arr _ s _ es _)=>some (s,es)
  |_=>none
 |.sub id lo n=>match lookup rows id with
  |some (.arr _ s _ es _)=>if lo+n<=es.length then some (s,(es.drop lo).take n)else none
  |_=>none
 |_=>none
structure dx where
 v:AV
 new:Option Row:=none
 mod:Option (Nat×Row):=none
 del:Option Nat:=none
 bW:List Nat:=[]
 nu:List Nat:=[]
 nv:List (Nat×Row):=[]
 news:List (Nat×Row):=[]
def l2(P:Program)(e:TypeId):Bool:=
 match P.info? e with
 |some i=>(i.size==(shOf P depth e).width)&&(Nat.blt 0 i.size&&((match i.zero with|some z=>z.cells.size==i.size|none=>false)&&(match q3 P e with|some z=>gg (shOf P depth e).cells z|none=>false)))
 |none=>false
def k5(P:Program)(e:TypeId)(s:Sh):Bool:=(P.info? e).isSome&&P.cellsOf e==s.width
def lI(P:Program)(e:TypeId):AV:=dU (shOf P depth e) ((q3 P e).getD [])
def y'(rows:List (Nat×Row)):AV->Option Nat
 |.own id=>match lookup rows id with
  |some (.cj _ _ _ pre _ post)=>some (pre.length+(post.length+1))
  |_=>none
 |_=>none
def tc(P:Program)(rows:List (Nat×Row))(t:TypeId)(x:AV)(y:dx->Option aj):Option aj:=
 match P.underlying t with
 |some .string=>match x with
  |.str s=>y {v:=.int .i64 s.length}
  |_=>none
 |some (.slice _)=>match y' rows x with
  |some n=>y {v:=.int .i64 (n:Nat)}
  |none=>match ta rows x with
   |some (_,es)=>y {v:=.int .i64 es.length}
   |none=>none
 |_=>none
def iA(s:List UInt8):List AV:=s.map λb=>.int .u8 (b.toNat:Int)
def q5(P:Program)(t b':TypeId)(rows:List (Nat×Row))(z:AV):Option (Sh×List AV):=
 if b'==t then ta rows z else
 match P.underlying b' with
 |some .string=>match z with
  |.str b=>some (.int .u8,iA b)
  |_=>none
 |_=>none
def q6(P:Program)(site:Nat)(b:Builtin)(ae:List TypeId)(args:List AV)(rows:List (Nat×Row))(y:dx->Option aj):Option aj:=
 match b,ae,args with
 |.len,t::_,[x]=>tc P rows t x y
 |.min,_,.int gq x::rest=>match minInt gq x rest with
  |some n=>y {v:=.int gq n}
  |none=>none
 |.max,_,.int gq x::rest=>match maxInt gq x rest with
  |some n=>y {v:=.int gq n}
  |none=>none
 |.clear,[t],[.sub id lo len]=>
  match P.underlying t with
  |some (.slice e)=>
   match lookup rows id with
   |some (.arr false s e' es sp)=>
    if Sh.beq s (shOf P depth e)&&l2 P e then
     bif decide (lo+len<=es.length)then
      y {v:=.undef,mod:=some (id,.arr false s e' (es.take lo++(List.replicate len (lI P e)++es.drop (lo+len))) sp)}
     else none
    else none
   |_=>none
  |_=>none
 |.append,[t,b'],[x,z]=>
  match P.underlying t with
  |some (.slice e)=>
   match q5 P t b' rows z with
   |none=>none
   |some (s2,eB)=>
    match x with
    |.bf s=>if Sh.beq s s2&&(Sh.beq s (shOf P depth e)&&l2 P e)then
      bif roomB eB.length (P.bytesOf e)then y {v:=.own site,new:=some (.arr false s e eB none)}else none
     else none
    |.own id=>
     match lookup rows id with
     |some (.arr false s e' es _)=>if Sh.beq s s2&&(Sh.beq s (shOf P depth e)&&(e==e'&&l2 P e))then
       bif roomB (es.length+eB.length) (P.bytesOf e)then y {v:=.own site,new:=some (.arr false s e (es++eB) none),del:=some id}else none
      else none
     |_=>none
    |_=>none
  |_=>none
 |_,_,_=>none
def Bz(rows:List (Nat×Row))(v:AV)(k:Sh->List AV->Option aj):Option aj:=
 match v with
 |.ab s es=>k s es
 |.bf s=>k s []
 |.own id=>match lookup rows id with
  |some (.arr _ s _ es _)=>k s es
  |_=>none
 |.sub id lo n=>match lookup rows id with
  |some (.arr _ s _ es _)=>bif decide (lo+n<=es.length)then k s ((es.drop lo).take n)else none
  |_=>none
 |_=>none
theorem uu(rows:List (Nat×Row))(v:AV)(k:Sh->List AV->Option aj):Bz rows v k=match ta rows v with
  |none=>none
  |some (s,es)=>k s es:=by
 cases v with
 |own id=>
  simp only[Bz,ta]
  cases lookup rows id with
  |none=>rfl
  |some r=>cases r<;>rfl
 |sub id lo n=>
  simp only[Bz,ta]
  cases lookup rows id with
  |none=>rfl
  |some r=>
   cases r with
   |box i cs=>rfl
   |cj i s e pre cs post=>rfl
   |arr i s e es sp=>
    simp only[]
    by_cases h:lo+n<=es.length
    .rw[dE h,aS h];rfl
    .rw[c0 h,cZ h];rfl
 |_=>rfl
def HB(P:Program)(t b':TypeId)(rows:List (Nat×Row))(z:AV)(k:Sh->List AV->Option aj):Option aj:=
 if b'==t then Bz rows z k else
 match P.underlying b' with
 |some .string=>match z with
  |.str b=>k (.int .u8) (iA b)
  |_=>none
 |_=>none
def Bv(P:Program)(t b':TypeId)(rows:List (Nat×Row))(z:AV)(k:Sh->List AV->Option aj):HB P t b' rows z k=match q5 P t b' rows z with
  |none=>none
  |some (s,es)=>k s es:=by
 unfold HB q5
 split
 .exact uu rows z k
 .split
  .cases z<;>rfl
  .rfl
def ML(P:Program)(rows:List (Nat×Row))(t:TypeId)(x:AV)(y:dx->Option aj):Option aj:=
 match P.underlying t with
 |some .string=>match x with
  |.str s=>y {v:=.int .i64 s.length}
  |_=>none
 |some (.slice _)=>match y' rows x with
  |some n=>y {v:=.int .i64 (n:Nat)}
  |none=>Bz rows x λ_ es=>y {v:=.int .i64 es.length}
 |_=>none
theorem afk(P:Program)(rows:List (Nat×Row))(t:TypeId)(x:AV)(y:dx->Option aj):ML P rows t x y=tc P rows t x y:=by
 unfold ML tc;simp only[uu]
 repeat' split
 all_goals first|rfl|simp_all
def BA(P:Program)(site:Nat)(b:Builtin)(ae:List TypeId)(args:List AV)(rows:List (Nat×Row))(y:dx->Option aj):Option aj:=
 match b,ae,args with
 |.len,t::_,[x]=>ML P rows t x y
 |.min,_,.int gq x::rest=>match minInt gq x rest with
  |some n=>y {v:=.int gq n}
  |none=>none
 |.max,_,.int gq x::rest=>match maxInt gq x rest with
  |some n=>y {v:=.int gq n}
  |none=>none
 |.clear,[t],[.sub id lo len]=>
  match P.underlying t with
  |some (.slice e)=>
   match lookup rows id with
   |some (.arr false s e' es sp)=>
    if Sh.beq s (shOf P depth e)&&l2 P e then
     bif decide (lo+len<=es.length)then
      y {v:=.undef,mod:=some (id,.arr false s e' (es.take lo++(List.replicate len (lI P e)++es.drop (lo+len))) sp)}
     else none
    else none
   |_=>none
  |_=>none
 |.append,[t,b'],[x,z]=>
  match P.underlying t with
  |some (.slice e)=>
   HB P t b' rows z λs2 eB=>
    match x with
    |.bf s=>if Sh.beq s s2&&(Sh.beq s (shOf P depth e)&&l2 P e)then
      bif roomB eB.length (P.bytesOf e)then y {v:=.own site,new:=some (.arr false s e eB none)}else none
     else none
    |.own id=>
     match lookup rows id with
     |some (.arr false s e' es _)=>if Sh.beq s s2&&(Sh.beq s (shOf P depth e)&&(e==e'&&l2 P e))then
       bif roomB (es.length+eB.length) (P.bytesOf e)then y {v:=.own site,new:=some (.arr false s e (es++eB) none),del:=some id}else none
      else none
     |_=>none
    |_=>none
  |_=>none
 |_,_,_=>none
theorem q7(P:Program)(site:Nat)(b:Builtin)(ae:List TypeId)(args:List AV)(rows:List (Nat×Row))(y:dx->Option aj):BA P site b ae args rows y=q6 P site b ae args rows y:=by
 unfold BA q6;simp only[uu,Bv,afk]
 repeat' split
 all_goals first|rfl|simp_all
def lJ(P:Program)(t:TypeId)(cs:List AV)(y:AV->Option aj):Option aj:=
 if isAggT P t then
  (if Nat.ble (P.cellsOf t) cs.length then y (.agg (cs.take (P.cellsOf t)))else none)
 else if(P.underlying t).isSome then
  match cs with
  |c::_=>y c
  |[]=>none
 else none
def vz(x:AV)(mx:Option Operand)(rows:List (Nat×Row)):Option (Nat×Row):=
 match x,mx with
 |.own id,none=>
  match lookup rows id with
  |some r=>some (id,r)
  |none=>none
 |_,_=>none
def entersB(P:Program)(f:FuncId):Bool:=
 match P.funcs[f]?with
 |some fn=> !(fn.name== "runtime.NumGoroutine")
 |none=>false
def hasBody(P:Program)(f:FuncId):Bool:=
 match P.funcs[f]?with
 |some fn=>fn.body.isSome
 |none=>false
def mO(site j:Nat):Nat:=site+4294967296*(j+1)
def toP(ids:List Nat)(i:Nat):Option Nat:=(idx ids i).map (aE+ ·)
def back(site:Nat)(ids:List Nat)(n:Nat)(i:Nat):Option Nat:=
 if Nat.blt i aE then none else
 if Nat.blt i bY then ids[i-aE]?else
 if Nat.blt (i-bY) n then some (mO site (i-bY))else none
def xg:List Nat->List (Option Row)->List Nat
 |i::is,none::rs=>i::xg is rs
 |_::is,some _::rs=>xg is rs
 |_,_=>[]
def qf(m:Nat->Option Nat):List Nat->List (Option Row)->List (Nat×Row)
 |i::is,some r::rs=>(i,r.iN m)::qf m is rs
 |_::is,none::rs=>qf m is rs
 |_,_=>[]
def rZ(m:Nat->Option Nat)(site:Nat):Nat->List Row->List (Nat×Row)
 |_,[]=>[]
 |j,r::rs=>(mO site j,r.iN m)::rZ m site (j+1) rs
def nw(site:Nat)(F:jD)(aA:List AV)(rows:List (Nat×Row))(y:dx->Option aj):Option aj:=
 match dp (ij rows depth) aA with
 |none=>none
 |some p=>
  match q2 rows (reach rows depth p.1 [])with
  |none=>none
  |some q=>
   if nodupB (reach rows depth p.1 [])&&Nat.ble (reach rows depth p.1 []).length 1000000&&(p.2++q.2).all (λi=> !(reach rows depth p.1 []).contains i)then
    F aj (AV.nt (toP (reach rows depth p.1 [])) p.1) (q.1.map (Row.iN (toP (reach rows depth p.1 [])))) λv c1 cf=>
     if c1.length==(reach rows depth p.1 []).length then
      y {v:=v.iN (back site (reach rows depth p.1 []) cf.length),bW:=p.2++q.2,nu:=xg (reach rows depth p.1 []) c1,nv:=qf (back site (reach rows depth p.1 []) cf.length) (reach rows depth p.1 []) c1,news:=rZ (back site (reach rows depth p.1 []) cf.length) site 0 cf}
     else none
   else none
def uv(site:Nat)(F:jD)(aA:List AV)(rows:List (Nat×Row))(y:dx->Option aj):Option aj:=
 match dp (cB rows depth) aA with
 |none=>none
 |some p=>F aj (AV.lG p.1) [] λv c1 cf=>
  match v,c1,cf with
  |.own id,[],[.arr false s e es none]=>if id=bY then y {v:=.own site,new:=some (.arr false s e es none),bW:=p.2}else none
  |_,_,_=>none
def xh(aq:Env)(f:Operand)(g:Nat):Option jD:=
 match f with
 |.func _=>q4 aq g
 |_=>if aq.D1 then q4 aq g else none
def td(P:Program)(e:TypeId):Bool:=
 match P.underlying e with
 |some (.int .u8)=>true
 |_=>false
def kF(es:List AV):List UInt8:=es.map λe=>UInt8.ofNat e.toInt.toNat
def BB(rows:List (Nat×Row))(id:Nat):Option (Sh×TypeId×List AV×List AV×List AV):=
 match lookup rows id with
 |some (.cj false s e pre cs post)=>some (s,e,pre,cs,post)
 |_=>none
def decA(s:List UInt8)(p:Nat):Nat×Nat:=Utf8.decode ⟨s.toArray⟩ p
def c9:AV->AV->Bool
 |.int k a,.int cl b=>decide (k=cl)&&(a==b)
 |.str a,.str b=>a==b
 |.agg [.int k a,.str s],.agg [.int cl b,.str t]=>decide (k=cl)&&((a==b)&&(s==t))
 |_,_=>false
def eL:AV->AV
 |.tup [k,_]=>k
 |_=>.J
def xi:AV->AV
 |.tup [_,v]=>v
 |_=>.J
def za(ja sv:Sh):AV->Bool
 |.tup [k,v]=>cb ja k&&cb sv v
 |_=>false
def jb(ja sv:Sh)(es:List AV):Bool:=es.all (za ja sv)
def dq(k:AV):List AV->Bool
 |[]=>false
 |e::es=>c9 k (eL e)||dq k es
def pB(k:AV):List AV->Nat
 |[]=>0
 |e::es=>bif c9 k (eL e)then 0 else pB k es+1
def gj(k:AV):List AV->AV
 |[]=>.J
 |e::es=>bif c9 k (eL e)then xi e else gj k es
def lK(v:AV):List AV->Nat->List AV
 |[],_=>[]
 |e::es,0=>.tup [eL e,v]::es
 |e::es,n+1=>e::lK v es n
def gG(k v:AV)(es:List AV):List AV:=bif dq k es then lK v es (pB k es)else es++[.tup [k,v]]
def r0(P:Program)(aC:List Field):Bool:=
 match aC with
 |[f,g]=>((f.name != "_")&&(f.offset==0))&&(((g.name != "_")&&(g.offset==1))&&((match P.underlying f.type with|some (.int _)=>true|_=>false)&&(match P.underlying g.type with|some .string=>true|_=>false)))
 |_=>false
def q8(P:Program)(bE:TypeId):Bool:=
 match P.underlying bE with
 |some (.int _)=>true
 |some .string=>true
 |some (.struct aC)=>r0 P aC.toList&&(!P.stoodInHeld bE&&(match shOf P depth bE with|.agg [.int _,.str]=>true|_=>false))
 |_=>false
def xj(ja:Sh)(es:List AV):Bool:=es.all λe=>match e with
 |.tup [k,_]=>cb ja k
 |_=>false
def r2{α:Type}(k:AV):List AV->(AV->Nat->α)->α->α
 |[],_,z=>z
 |e::es,f,z=>bif c9 k (eL e)then f (xi e) 0 else r2 k es (λv n=>f v (n+1)) z
def yR(s:Sh)(v:AV):AV:=dU s (hj s v)
def MM(P:Program)(t:TypeId):Option AV:=
 match P.info? t with
 |some i=>i.zero.map (oS (shOf P depth t))
 |none=>none
def T9(P:Program)(t:TypeId):Bool:=
 match P.info? t with
 |some i=>match i.zero with
  |some (.slice none 0 0)=>true
  |_=>false
 |none=>false
def zeroAt(P:Program)(b:Bool)(t:TypeId):Option AV:=if b&&T9 P t then some .lF else MM P t
def mapOf(P:Program)(rows:List (Nat×Row))(t:TypeId)(x:AV):Option (TypeId×TypeId×Nat×Bool×List AV):=
 match P.underlying t,x with
 |some (.map bE ey),.own id=>
  match lookup rows id with
  |some (.box im [.ct es])=>if q8 P bE then some (bE,ey,id,im,es)else none
  |_=>none
 |_,_=>none
def r3(P:Program)(rows:List (Nat×Row))(t:TypeId)(x:AV):Option (TypeId×TypeId×Nat×Bool×List AV):=
 match P.underlying t,x with
 |some (.map bE ey),.own id=>
  match lookup rows id with
  |some (.box im [.tup es])=>if q8 P bE&&xj (shOf P depth bE) es then some (bE,ey,id,im,es)else none
  |_=>none
 |_,_=>none
def q9(P:Program)(op:BinOp)(t:TypeId)(r:Option Row)(y:AV->Option aj):Option aj:=
 match P.underlying t,r with
 |some (.slice _),some (.arr _ _ _ es _)=>
  match op with
  |.eql=>bif es.isEmpty then y .jC else y (.bool false)
  |.neq=>bif es.isEmpty then y .jC else y (.bool true)
  |_=>none
 |_,_=>none
def te(P:Program)(e:TypeId)(x:AV)(lo hi mx:Option AV)(rows:List (Nat×Row))(y:dx->Option aj):Option aj:=
 match x with
 |.own id=>
  match lookup rows id with
  |some (.arr _ s _ es dm)=>
   if !k5 P e s then none else
   match mx,hi with
   |some (.int _ ny),some _=>bif slb (cP lo 0) (cP hi es.length) es.length&&(decide (cP hi es.length<=ny)&&decide (ny<=es.length))then y {v:=.J}else none
   |some _,_=>none
   |none,_=>match dm with
    |some l=>bif slb (cP lo 0) (cP hi es.length) (es.length+l.length)then y {v:=.sub id (cP lo 0).toNat ((cP hi es.length).toNat-(cP lo 0).toNat)}else none
    |none=>none
  |_=>none
 |_=>none
def ur(P:Program)(site:Nat)(b:Builtin)(ae:List TypeId)(args:List AV)(rows:List (Nat×Row))(y:dx->Option aj):Option aj:=
 match b,ae,args with
 |.append,[t,b'],[.sub id 0 i,z]=>
  match P.underlying t with
  |some (.slice e)=>
   HB P t b' rows z λs2 eB=>
    match lookup rows id with
    |some (.arr false s e' es dm)=>if Sh.beq s s2&&(Sh.beq s (shOf P depth e)&&(e==e'&&l2 P e))then
      bif decide (i+eB.length<=es.length)then y {v:=.own site,new:=some (.arr false s e (es.take i++eB) (dm.map λl=>es.drop (i+eB.length)++l)),del:=some id}else none
     else none
    |_=>none
  |_=>none
 |.clear,[t],[.sub id lo len]=>
  match P.underlying t with
  |some (.slice e)=>
   match lookup rows id with
   |some (.arr false s e' es (some l))=>
    if Sh.beq s (shOf P depth e)&&l2 P e then
     bif decide (es.length<=lo)&&decide (lo+len<=es.length+l.length)then y {v:=.undef,mod:=some (id,.arr false s e' es none)}else none
    else none
   |_=>none
  |_=>none
 |_,_,_=>none
def b7(P:Program)(aq:Env)(site:Nat)(o:Oper)(tm:List AV)(rows:List (Nat×Row))(y:dx->Option aj):Option aj:=
 match o.op with
 |.move x|.assign x=>y {v:=cw P tm o.type x}
 |.pick c a b=>
  match val tm c with
  |.bool t=>bif t then y {v:=cw P tm o.type a}else y {v:=cw P tm o.type b}
  |_=>none
 |.alloc t=>
  match q3 P t with
  |some cs=>y {v:=.ptr site 0,new:=some (.box false cs)}
  |none=>none
 |.box t x=>if(cw P tm t x).laidB then y {v:=.ptr site 0,new:=some (.box false (cw P tm t x).cells)}else none
 |.build t parts=>
  match q3 P t with
  |some cs=>
   if partsKnown P t then
    match Bx (placeOf P t) cs (parts.toList.map λp=>(p.1,cw P tm (D0 P t p.1) p.2))with
    |some ea=>y {v:=.agg ea}
    |none=>none
   else none
  |none=>none
 |.buildSlice t len parts=>
  match P.underlying t with
  |some (.slice e)=>
   if len=0 then(if(P.info? e).isSome&&parts.size==0 then y {v:=.bf (shOf P depth e)}else none)else
   if !l2 P e||(Nat.blt 1000 len||Nat.blt 1000 (P.cellsOf e))then none else
   match q3 P e with
   |some z=>
    match dp (cB rows depth) (parts.toList.map λp=>cw P tm e p.2)with
    |some q=>
     match By (shOf P depth e) (List.replicate len (dU (shOf P depth e) z)) ((parts.toList.map λp=>p.1).zip q.1)with
     |some es=>if es.all (cb (shOf P depth e))then y {v:=.own site,new:=some (.arr false (shOf P depth e) e es none),bW:=q.2}else none
     |none=>none
    |none=>none
   |none=>none
  |_=>none
 |.load t a=>
  match val tm a with
  |.ptr id off=>match lookup rows id with
   |some (.box _ cs)=>lJ P t (cs.drop off) λv=>y {v}
   |_=>none
  |.ref cs=>lJ P t cs λv=>y {v}
  |.hP s es i off=>lJ P t ((hj s (es.getD i .J)).drop off) λv=>y {v}
  |.eptr id i off=>match lookup rows id with
   |some (.arr _ s _ es _)=>bif decide (i<es.length)then lJ P t ((hj s (es.getD i .J)).drop off) λv=>y {v}else none
   |some (.cj _ s _ pre cs post)=>
    bif decide (i=pre.length)then lJ P t (cs.drop off) λv=>y {v}
    else if aq.hole then none else bif decide (i<pre.length)then lJ P t ((hj s (pre.getD i .J)).drop off) λv=>y {v}
    else bif decide (i-(pre.length+1)<post.length)then lJ P t ((hj s (post.getD (i-(pre.length+1)) .J)).drop off) λv=>y {v}else none
   |_=>none
  |_=>none
 |.store t a x=>
  if(cw P tm t x).laidB&&((cw P tm t x).cells.length==P.cellsOf t&&P.cellsOf t !=0)then
   match val tm a with
   |.ptr id off=>match lookup rows id with
    |some (.box false cs)=>
     if Nat.ble (off+(cw P tm t x).cells.length) cs.length then
      y {v:=.undef,mod:=some (id,.box false (eM cs off (cw P tm t x).cells))}
     else none
    |_=>none
   |.eptr id i off=>
    match BB rows id with
    |some (s,e,pre,cs,post)=>
     bif decide (i=pre.length)then
      (if Nat.ble (off+(cw P tm t x).cells.length) cs.length then y {v:=.undef,mod:=some (id,.cj false s e pre (eM cs off (cw P tm t x).cells) post)}else none)
     else
     if aq.hole then none else
     match cB rows depth (cw P tm t x)with
     |some p=>
      if !p.2.contains id&&(p.1.laidB&&(p.1.cells.length==P.cellsOf t&&Nat.ble (off+P.cellsOf t) s.width))then
       bif decide (i<pre.length)then
        if cb s (dU s (eM (hj s (pre.getD i .J)) off p.1.cells))then
         y {v:=.undef,mod:=some (id,.cj false s e (pre.set i (dU s (eM (hj s (pre.getD i .J)) off p.1.cells))) cs post),bW:=p.2}
        else none
       else bif decide (i-(pre.length+1)<post.length)then
        if cb s (dU s (eM (hj s (post.getD (i-(pre.length+1)) .J)) off p.1.cells))then
         y {v:=.undef,mod:=some (id,.cj false s e pre cs (post.set (i-(pre.length+1)) (dU s (eM (hj s (post.getD (i-(pre.length+1)) .J)) off p.1.cells)))),bW:=p.2}
        else none
       else none
      else none
     |none=>none
    |none=>
    match cB rows depth (cw P tm t x)with
    |some p=>
     match lookup rows id with
     |some (.arr false s e es sp)=>
      if !p.2.contains id&&(p.1.laidB&&(p.1.cells.length==P.cellsOf t&&(Nat.ble (off+P.cellsOf t) s.width&&cb s (dU s (eM (hj s (es.getD i .J)) off p.1.cells)))))then
       bif decide (i<es.length)then
        y {v:=.undef,mod:=some (id,.arr false s e (es.set i (dU s (eM (hj s (es.getD i .J)) off p.1.cells))) sp),bW:=p.2}
       else none
      else none
     |_=>none
    |none=>none
   |_=>none
  else none
 |.nilCheck x=>
  match val tm x with
  |.ptr id off=>y {v:=.ptr id off}
  |.eptr id i off=>y {v:=.eptr id i off}
  |.ref cs=>y {v:=.ref cs}
  |.hP s es i off=>y {v:=.hP s es i off}
  |.fn f cs=>y {v:=.fn f cs}
  |_=>none
 |.binOp op t x z _=>if vx z then(match cw P tm t x with
  |.own id=>q9 P op t (lookup rows id) (λv=>y {v})
  |v=>s' P op t v (λv=>y {v}))else evBin P op t (cw P tm t x) (cw P tm t z) λv=>y {v}
 |.unOp op t x=>
  match op,cw P tm t x with
  |.neg,.int gq n=>y {v:=.int gq (gq.wrap (0-n))}
  |.not,.bool b=>y {v:=.bool !b}
  |_,_=>none
 |.convert src dst x=>
  match P.underlying src,P.underlying dst,cw P tm src x with
  |some (.int _),some (.int gq),.int _ n=>y {v:=.int gq (gq.wrap n)}
  |some .string,some .string,.str s=>y {v:=.str s}
  |some (.slice e),some .string,v=>if aq.conv&&td P e then Bz rows v λs es=>if Sh.beq s (.int .u8)then y {v:=.str (kF es)}else none else none
  |_,_,_=>none
 |.makeFunc (.func f) first captured=>if first.size=0 then y {v:=.fn f (captured.toList.map (val tm))}else none
 |.slice t x lo hi mx=>
  if k4 (lo.map (val tm))&&k4 (hi.map (val tm))then
   match P.underlying t,val tm x with
   |some .string,.str s=>
    if mx.isNone then
     bif slb (cP (lo.map (val tm)) 0) (cP (hi.map (val tm)) s.length) s.length then
      y {v:=.str ((s.drop (cP (lo.map (val tm)) 0).toNat).take ((cP (hi.map (val tm)) s.length).toNat-(cP (lo.map (val tm)) 0).toNat))}
     else none
    else none
   |some (.array n e),gH=>
    if lo.isNone&&(hi.isNone&&(mx.isNone&&((P.info? e).isSome&&Nat.ble n 1000000)))then
     match cB rows depth gH with
     |some (.ref cs,ids)=>if Nat.ble n cs.length&&(cs.take n).all (fE (shOf P depth e))then y {v:=.ab (shOf P depth e) (cs.take n),bW:=ids}else none
     |_=>none
    else none
   |some (.slice e),gH=>
    if aq.cut.contains site then te P e gH (lo.map (val tm)) (hi.map (val tm)) (mx.map (val tm)) rows y else
    match vz gH mx rows with
    |some (id,.arr im s e' es sp)=>
     if !k5 P e s then none else
     if aq.ext.contains site&&lo.isNone then
      match sp,im with
      |some l,false=>
       bif decide ((es.length:Int)<=cP (hi.map (val tm)) es.length)&&decide (cP (hi.map (val tm)) es.length<=(es.length:Int)+l.length)then
        y {v:=.own site,new:=some (.arr false s e' (es++l.take ((cP (hi.map (val tm)) es.length).toNat-es.length)) (some (l.drop ((cP (hi.map (val tm)) es.length).toNat-es.length)))),del:=some id}
       else none
      |_,_=>none
     else if aq.ext.contains site then
      match im with
      |false=>
       if hi.isNone then
        bif decide (0<=cP (lo.map (val tm)) 0)&&decide (cP (lo.map (val tm)) 0<=(es.length:Int))then
         y {v:=.own site,new:=some (.arr false s e' (es.drop (cP (lo.map (val tm)) 0).toNat) sp),del:=some id}
        else none
       else none
      |true=>none
     else
     bif slb (cP (lo.map (val tm)) 0) (cP (hi.map (val tm)) es.length) es.length then
      y {v:=.sub id (cP (lo.map (val tm)) 0).toNat ((cP (hi.map (val tm)) es.length).toNat-(cP (lo.map (val tm)) 0).toNat)}
     else none
    |some _=>none
    |none=>
    match cB rows depth gH with
    |some (.ab s es,ids)=>
     if !k5 P e s then none else
     match mx with
     |none=>
      bif slb (cP (lo.map (val tm)) 0) (cP (hi.map (val tm)) es.length) es.length then
       y {v:=.ab s ((es.drop (cP (lo.map (val tm)) 0).toNat).take ((cP (hi.map (val tm)) es.length).toNat-(cP (lo.map (val tm)) 0).toNat)),bW:=ids}
      else none
     |some (.tmp m)=>
      match lo,hi.map (val tm),val tm (.tmp m)with
      |none,some (.int _ h),.int _ ny=>bif(ny==h)&&(decide (0<=h)&&decide (h<=es.length))then y {v:=.ab s (es.take h.toNat),bW:=ids}else none
      |_,_,_=>none
     |some m=>
      match val tm m with
      |.int _ ny=>if ny==0&&((cP (lo.map (val tm)) 0==0)&&(cP (hi.map (val tm)) 1==0))then y {v:=.bf s}else none
      |_=>none
    |_=>none
   |_,_=>none
  else none
 |.fieldAddr t x f=>
  match fieldOf P t f with
  |some dB=>
   if P.cellsOf dB.type==0 then none else
   match val tm x with
   |.ptr id off=>y {v:=.ptr id (off+dB.offset)}
   |.eptr id i off=>y {v:=.eptr id i (off+dB.offset)}
   |.hP s es i off=>y {v:=.hP s es i (off+dB.offset)}
   |.ref cs=>y {v:=.ref (cs.drop dB.offset)}
   |_=>none
  |none=>none
 |.field t x f=>
  match fieldOf P t f with
  |some dB=>
   match cw P tm t x with
   |.agg cs=>
    if isAggT P dB.type then
     (if Nat.ble (dB.offset+P.cellsOf dB.type) cs.length then y {v:=.agg ((cs.drop dB.offset).take (P.cellsOf dB.type))}else none)
    else match cs[dB.offset]?with
     |some v=>if(P.underlying dB.type).isSome then y {v}else none
     |none=>none
   |_=>none
  |none=>none
 |.indexAddr t x i=>
  match val tm i with
  |.int _ n=>
   match P.underlying t,val tm x with
   |some (.slice e),.ab s es=>if k5 P e s then(bif inb n es.length then y {v:=.hP s es n.toNat 0}else none)else none
   |some (.slice e),.own id=>
    match lookup rows id with
    |some (.arr _ s _ es _)=>if k5 P e s then(bif inb n es.length then y {v:=.eptr id n.toNat 0}else none)else none
    |some (.cj _ s _ pre _ post)=>if k5 P e s then(bif inb n (pre.length+(post.length+1))then y {v:=.eptr id n.toNat 0}else none)else none
    |_=>none
   |some (.slice e),.sub id lo len=>
    match lookup rows id with
    |some (.arr _ s _ es _)=>if k5 P e s then(bif inb n len&&decide (lo+len<=es.length)then y {v:=.eptr id (lo+n.toNat) 0}else none)else none
    |_=>none
   |some (.array len e),.ptr id off=>if(P.info? e).isSome then(bif inb n len then y {v:=.ptr id (off+n.toNat*P.cellsOf e)}else none)else none
   |some (.array len e),.ref cs=>if(P.info? e).isSome then(bif inb n len then y {v:=.ref (cs.drop (n.toNat*P.cellsOf e))}else none)else none
   |_,_=>none
  |_=>none
 |.index t x i=>
  match val tm i with
  |.int _ n=>
   match P.underlying t,cw P tm t x with
   |some .string,.str s=>bif inb n s.length then y {v:=.int .u8 ((s.getD n.toNat 0).toNat)}else none
   |some (.array len e),.agg cs=>
    if isAggT P e then none else
    if(P.underlying e).isSome&&((P.cellsOf e==1)&&((len==cs.length)&&cs.all (fE (shOf P depth e))))then
     bif inb n len then y {v:=DX (shOf P depth e) (cs.getD n.toNat .J)}else none
    else none
   |_,_=>none
  |_=>none
 |.extract x i=>
  match val tm x with
  |.tup vs=>match vs[i]?with
   |some v=>y {v}
   |none=>none
  |_=>none
 |.makeInterface t x=>
  match P.underlying t with
  |some (.pointer _)=>
   match cB rows depth (cw P tm t x)with
   |some (.ref cs,ids)=>y {v:=.lE t cs,bW:=ids}
   |_=>none
  |_=>none
 |.makeSlice t l c=>
  match P.underlying t,val tm l,val tm c with
  |some (.slice e),.int _ n,.int _ m=>
   if l2 P e then
    bif(n==m)&&(decide (0<=n)&&roomB n.toNat (P.bytesOf e))then y {v:=.own site,new:=some (.arr false (shOf P depth e) e (List.replicate n.toNat (lI P e)) none)}else none
   else none
  |_,_,_=>none
 |.makeMap t none=>
  match P.underlying t with
  |some (.map _ _)=>if aq.ext.contains site then y {v:=.own site,new:=some (.box false [.tup []])}else y {v:=.own site,new:=some (.box false [.ct []])}
  |_=>none
 |.lookup t x k ok=>
  match mapOf P rows t (val tm x)with
  |some (bE,ey,_,_,es)=>
   if cb (shOf P depth bE) (cw P tm bE k)then
    (cw P tm bE k).force λkey=>
    bif jb (shOf P depth bE) (shOf P depth ey) es then
     bif dq key es then
      (if ok then y {v:=.tup [yR (shOf P depth ey) (gj key es),.bool true]}else y {v:=yR (shOf P depth ey) (gj key es)})
     else match zeroAt P (aq.ext.contains site) ey with
      |some z=>(if ok then y {v:=.tup [z,.bool false]}else y {v:=z})
      |none=>none
    else none
   else none
  |none=>
   match r3 P rows t (val tm x)with
   |some (bE,ey,_,_,es)=>
    if cb (shOf P depth bE) (cw P tm bE k)&& !ok then
     (cw P tm bE k).force λkey=>
     match zeroAt P (aq.ext.contains site) ey with
     |some z=>r2 key es (λv _=>y {v}) (y {v:=z})
     |none=>none
    else none
   |none=>none
 |.mapUpdate t m k x=>
  match mapOf P rows t (val tm m)with
  |some (bE,ey,id,false,es)=>
   if cb (shOf P depth bE) (cw P tm bE k)then
    match cB rows depth (cw P tm ey x)with
    |some p=>
     if !p.2.contains id&&cb (shOf P depth ey) p.1 then
      (cw P tm bE k).force λkey=>p.1.force λv=>
      bif jb (shOf P depth bE) (shOf P depth ey) es then y {v:=.undef,mod:=some (id,.box false [.ct (gG key v es)]),bW:=p.2}else none
     else none
    |none=>none
   else none
  |none=>
   match r3 P rows t (val tm m)with
   |some (bE,ey,id,false,es)=>
    if cb (shOf P depth bE) (cw P tm bE k)then
     (cw P tm bE k).force λkey=>(cw P tm ey x).force λv=>
     r2 key es (λ_ n=>y {v:=.undef,mod:=some (id,.box false [.tup (lK v es n)])}) (y {v:=.undef,mod:=some (id,.box false [.tup (es++[.tup [key,v]])])})
    else none
   |_=>none
  |_=>none
 |.call {callee:=.builtin b,args,argTypes}=>if aq.cut.contains site then ur P site b argTypes.toList (hz P tm argTypes.toList args.toList) rows y else BA P site b argTypes.toList (hz P tm argTypes.toList args.toList) rows y
 |.call {callee:=.value f,args,argTypes}=>
  match val tm f with
  |.fn g gF=>
   match xh aq f g with
   |some F=>if entersB P g then(if aq.D2.contains g then uv site F (hz P tm argTypes.toList args.toList++gF) rows y else nw site F (hz P tm argTypes.toList args.toList++gF) rows y)else none
   |none=>
   match dp (cB rows depth) (hz P tm argTypes.toList args.toList++gF)with
   |some p=>
    match find aq g with
    |some F=>if entersB P g then F aj (AV.lG p.1) (λv=>y {v,bW:=if v.flat then[]else p.2})else none
    |none=>none
   |none=>none
  |.own id=>
   match aq.iq with
   |some (key,np,F)=>
    match lookup rows id with
    |some (.box false (.tup [.int .i64 r4]::_))=>if r4==key&&args.size==np then nw site F (.own id::hz P tm argTypes.toList args.toList) rows y else none
    |_=>none
   |none=>none
  |_=>none
 |_=>none
def eI(site:Nat)(e:dx)(rows:List (Nat×Row)):List (Nat×Row):=
 let r1:=match e.del with
  |some i=>mn rows i
  |none=>rows
 let cQ:=match e.mod with
  |some p=>setRow r1 p.1 p.2
  |none=>r1
 let c6:=match e.bW with
  |[]=>cQ
  |ids=>il ids cQ
 let nz:=match e.new with
  |some r=>setRow c6 site r
  |none=>c6
 e.news.foldl (λrs p=>setRow rs p.1 p.2) (e.nv.foldl (λrs p=>setRow rs p.1 p.2) (e.nu.foldl mn nz))
def hl(tm:List AV)(dst:Option Tmp)(v:AV):List AV:=
 match dst with
 |some d=>tm.set d v
 |none=>tm
def apply(site:Nat)(dst:Option Tmp)(e:dx)(st:bC):bC:=⟨hl st.tm dst e.v,eI site e st.rows,e.news.map (·.1)++(match e.new with|some _=>site::st.used|none=>st.used)⟩
def gX(site:Nat)(e:dx)(used:List Nat):Bool:=
 (match e.new with
 |some _=> !used.contains site&&Nat.blt site aE
 |none=>true)&&(e.news.all λp=> !used.contains p.1&&Nat.blt p.1 aE)
def afl(ops:List Oper)(i:Nat):Bool:=ops.any λo=>match o.guard with
 |some (j,_)=>j==i
 |none=>false
def oT(ops:List Oper)(i:Nat)(dst:Option Tmp)(st:bC)(k:bC->Option aj):Option aj:=
 if afl ops i then
  match dst with
  |some d=>
   match st.tm.getD d .J with
   |.bool b=>bif b then k ⟨st.tm.set d (.bool true),st.rows,st.used⟩else k ⟨st.tm.set d (.bool false),st.rows,st.used⟩
   |_=>none
  |none=>none
 else k st
def k6(ops:List Oper)(tm:List AV)(j:Nat):AV:=
 match ops[j]?with
 |some o=>match o.dst with
  |some d=>tm.getD d .J
  |none=>.J
 |none=>.J
def union1(l:List Nat)(x:Nat):List Nat:=if l.contains x then l else x::l
def zb:List Oper->List (List Nat)->List (List Nat)
 |[],acc=>acc
 |o::os,acc=>zb os (acc++[o.after.toList.foldl (λs e=>if Region.binds .any e then(acc.getD e.on []).foldl union1 (union1 s e.on)else s) []])
def ancTab(ops:List Oper):List (List Nat):=zb ops []
def BC(rid i:Nat):Bool:=Nat.blt i aE&&(i%4294967296)/64==rid
def hQ(rid:Nat)(ek:List Nat):List (Nat×Row)->List (Nat×Row)
 |[]=>[]
 |(i,r)::rest=>if !BC rid i||ek.contains (i%64)then(i,r)::hQ rid ek rest else hQ rid ek rest
def gI{aj:Type}(P:Program)(aq:Env)(rid:Nat)(ops:List Oper)(ek:Option (List (List Nat)))(k:bC->Option aj):Nat->List Oper->bC->Option aj
 |_,[],st=>k st
 |i,o::rest,st=>
  match o.guard with
  |none=>b7 P aq (rid*64+i) o st.tm (match ek with|none=>st.rows|some l=>hQ rid (l.getD i []) st.rows) λe=>if gX (rid*64+i) e st.used then(apply (rid*64+i) o.dst e st).force λeU=>oT ops i o.dst eU (gI P aq rid ops ek k (i+1) rest)else none
  |some (j,want)=>
   match k6 ops st.tm j with
   |.bool b=>bif b==want then
     b7 P aq (rid*64+i) o st.tm (match ek with|none=>st.rows|some l=>hQ rid (l.getD i []) st.rows) λe=>if gX (rid*64+i) e st.used then(apply (rid*64+i) o.dst e st).force λeU=>oT ops i o.dst eU (gI P aq rid ops ek k (i+1) rest)else none
    else gI P aq rid ops ek k (i+1) rest ⟨hl st.tm o.dst .undef,st.rows,st.used⟩
   |.undef=>gI P aq rid ops ek k (i+1) rest ⟨hl st.tm o.dst .undef,st.rows,st.used⟩
   |_=>none
def changes(aq:Env):Op->Bool
 |.store .. =>true
 |.mapUpdate .. =>true
 |.slice .. => !aq.ext.isEmpty
 |.call {callee:=.builtin .append,..}=>true
 |.call {callee:=.builtin .clear,..}=>true
 |.call {callee:=.value (.func g),..}=>(q4 aq g).isSome&& !aq.D2.contains g
 |.call {callee:=.value _,..}=>aq.D1||aq.iq.isSome
 |_=>false
def isConst:Operand->Bool
 |.const _=>true
 |_=>false
def gi(aq:Env):Op->Bool
 |.convert .. =>aq.conv
 |.move _|.assign _|.pick .. |.build .. |.nilCheck _|.unOp .. |.makeFunc .. |.fieldAddr .. |.field .. |.index .. |.extract .. =>false
 |.binOp _ _ _ z _=>vx z
 |.call {callee:=.value (.func g),args,..}=>(q4 aq g).isSome|| !args.all isConst
 |_=>true
def xk(ops:Array Oper)(t:Nat):Bool:=ops.toList.all λo=>match o.dst with
 |some d=> !(d==t)
 |none=>true
def T':AV->Bool
 |.ptr _ _=>true
 |_=>false
def BD(j:Nat):AV->Bool
 |.ptr i _=> !(i==j)
 |.J=>true
 |.undef=>true
 |_=>false
def BE(ops:Array Oper)(tm:List AV)(s j:Nat):Bool:=BD j (tm.getD s .J)&&ops.toList.all λo=>match o.dst with
 |some d=> !(d==s)||(match o.op with
  |.fieldAddr _ (.tmp x) _=>xk ops x&&(T' (tm.getD x .J)&&BD j (tm.getD x .J))
  |_=>false)
 |none=>true
def HC(ops:Array Oper)(tm:List AV)(s t:Nat):Bool:=xk ops t&&(match tm.getD t .J with
 |.ptr j _=>BE ops tm s j
 |_=>false)
def HD:AV->Bool
 |.ptr _ _=>true
 |.J=>true
 |.undef=>true
 |_=>false
def BF(ops:Array Oper)(tm:List AV)(s:Nat):Bool:=HD (tm.getD s .J)&&ops.toList.all λo=>match o.dst with
 |some d=> !(d==s)||(match o.op with
  |.fieldAddr _ (.tmp x) _=>xk ops x&&T' (tm.getD x .J)
  |_=>false)
 |none=>true
def Ua(ops:Array Oper)(tm:List AV)(a b:Oper):Bool:=
 match a.op,b.op with
 |.load _ (.tmp s),.store _ (.tmp t) _=>HC ops tm s t
 |.store _ (.tmp t) _,.load _ (.tmp s)=>HC ops tm s t
 |.load _ (.tmp s),.call {callee:=.builtin .append,args:=_,argTypes:=_}=>BF ops tm s
 |.call {callee:=.builtin .append,args:=_,argTypes:=_},.load _ (.tmp s)=>BF ops tm s
 |_,_=>false
def HE:Op->Bool
 |.buildSlice .. =>true
 |.makeSlice .. =>true
 |.call {callee:=.builtin .append,..}=>true
 |_=>false
def D3(ek:List Nat)(s:Nat):Nat->List Oper->Bool
 |_,[]=>true
 |i,o::os=>(match o.dst with
  |some d=> !(d==s)||(HE o.op&& !ek.contains i)
  |none=>true)&&D3 ek s (i+1) os
def Ub:AV->Bool
 |.undef=>true
 |.J=>true
 |_=>false
def D4(ops:Array Oper)(tm:List AV)(ek:List Nat)(s:Nat):Bool:=Ub (tm.getD s .J)&&D3 ek s 0 ops.toList
def xl(ops:Array Oper)(tm:List AV)(ek:List Nat):Op->Bool
 |.call {callee:=.builtin .append,args,argTypes:=_}=>match args.toList with
  |.tmp s::_=>D4 ops tm ek s
  |_=>false
 |.convert _ _ (.tmp s)=>D4 ops tm ek s
 |_=>false
def uw:Op->Bool
 |.alloc _=>true
 |.box .. =>true
 |_=>false
def zc:Op->Bool
 |.store .. =>true
 |.convert .. =>true
 |.call {callee:=.builtin .append,..}=>true
 |_=>false
def Uc(aq:Env)(ops:Array Oper)(tm:List AV)(HF zd:List Nat)(a b:Oper):Bool:=(!changes aq a.op||xl ops tm zd a.op)&&(!changes aq b.op||xl ops tm HF b.op)
def Ud(a b:Oper):Bool:=(uw b.op&&zc a.op)||(uw a.op&&zc b.op)
def HG(aq:Env)(ops:Array Oper)(tm:List AV)(HF zd:List Nat)(a b:Oper):Bool:=Oper.apart ops a b&&(((!(changes aq a.op&&gi aq b.op)&& !(gi aq a.op&&changes aq b.op))||Ua ops tm a b)||(Ud a b||Uc aq ops tm HF zd a b))
def xm(aq:Env)(ops:Array Oper)(tm:List AV):Bool:=
 (List.range ops.size).all λj=>
  ((ops[j]?).map λb=>b.after.all λe=> !Region.binds .any e||Nat.blt e.on j).getD false&&
  (List.range j).all λi=>((ancTab ops.toList).getD j []).contains i||(match ops[i]?,ops[j]?with
   |some a,some b=>HG aq ops tm ((ancTab ops.toList).getD i []) ((ancTab ops.toList).getD j []) a b
   |_,_=>false)
structure Norm where
 len:Nat
 dr:List Nat
 rows:List Nat:=[]
 homes:List (Nat×Nat×TypeId):=[]
 cells:List (Nat×Nat×Nat×TypeId):=[]
def D5(gJ ids:List Nat):Nat->List AV->List AV
 |_,[]=>[]
 |i,v::vs=>(if gJ.contains i then v.only ids else .J)::D5 gJ ids (i+1) vs
def BG(rows:List (Nat×Row))(ids:List Nat):List Nat->List (Nat×Row)
 |[]=>[]
 |i::is=>match lookup rows i with
  |some r=>(i,r.only ids)::BG rows ids is
  |none=>BG rows ids is
def mask(dr ids:List Nat)(st:bC):bC:=⟨D5 dr ids 0 st.tm,BG st.rows ids ids,ids⟩
def ze:List (Nat×Row)->List Nat
 |[]=>[]
 |(i,_)::rest=>i::ze rest
def Ue:Nat:=1000000
def zf(st:bC)(id:Nat):bC:=mask (List.range st.tm.length) ((ze st.rows).filter λi=> !(i==id)) st
def qg(st:bC)(x:Nat×Nat×TypeId):bC:=
 if x.1=Ue then zf st x.2.1 else
 if st.used.contains x.2.1||Nat.ble aE x.2.1 then st else
 match st.tm.getD x.1 .J with
 |.own id=>
  match lookup st.rows id with
  |some r=>⟨st.tm.set x.1 (.own x.2.1),setRow (mn st.rows id) x.2.1 r,x.2.1::st.used⟩
  |none=>st
 |.bf s=>if Nat.blt 0 s.width then⟨st.tm.set x.1 (.own x.2.1),setRow st.rows x.2.1 (.arr false s x.2.2 [] none),x.2.1::st.used⟩else st
 |.sub id 0 n=>
  match lookup st.rows id with
  |some (.arr false s e es _)=>if Nat.ble n es.length then⟨st.tm.set x.1 (.own x.2.1),setRow (mn st.rows id) x.2.1 (.arr false s e (es.take n) none),x.2.1::st.used⟩else st
  |_=>st
 |_=>st
def MN(es:List AV):Bool:=es.all λe=>match e with
 |.tup [_,_]=>true
 |_=>false
def afm:Nat:=2000
def zg(st:bC)(x:Nat×Nat×Nat×TypeId):bC:=
 if st.used.contains x.2.2.1||Nat.ble aE x.2.2.1 then st else
 match lookup st.rows x.1 with
 |some (.box im cs)=>
  match cs.getD x.2.1 .J with
  |.own id=>
   match lookup st.rows id with
   |some r=>if id=x.1 then st else⟨st.tm,setRow (setRow (mn st.rows id) x.2.2.1 r) x.1 (.box im (cs.set x.2.1 (.own x.2.2.1))),x.2.2.1::st.used⟩
   |none=>st
  |.bf s=>if Nat.blt 0 s.width then⟨st.tm,setRow (setRow st.rows x.2.2.1 (.arr false s x.2.2.2 [] none)) x.1 (.box im (cs.set x.2.1 (.own x.2.2.1))),x.2.2.1::st.used⟩else st
  |_=>
   match cs with
   |[.tup es]=>
    if Nat.beq x.2.1 afm then
     (match dp (cB st.rows depth) es with
     |some p=>if !p.2.contains x.1&&(!im&&MN es)then⟨st.tm,setRow (il p.2 st.rows) x.1 (.box im [.ct p.1]),st.used⟩else st
     |none=>st)
    else
     (match es.getD (x.2.1-1) .J with
     |.tup [k,.own id]=>
      match lookup st.rows id with
      |some r=>if id=x.1 then st else⟨st.tm,setRow (setRow (mn st.rows id) x.2.2.1 r) x.1 (.box im [.tup (es.set (x.2.1-1) (.tup [k,.own x.2.2.1]))]),x.2.2.1::st.used⟩
      |none=>st
     |_=>st)
   |_=>st
 |some (.cj im s e pre cs post)=>
  match cs.getD x.2.1 .J with
  |.own id=>
   match lookup st.rows id with
   |some r=>if id=x.1 then st else⟨st.tm,setRow (setRow (mn st.rows id) x.2.2.1 r) x.1 (.cj im s e pre (cs.set x.2.1 (.own x.2.2.1)) post),x.2.2.1::st.used⟩
   |none=>st
  |_=>st
 |_=>st
def norm(N:Norm)(st:bC):bC:=mask N.dr N.rows (N.cells.foldl zg (N.homes.foldl qg (mask N.dr (ze st.rows) st)))
abbrev Uf:=(aj:Type)->List AV->List (Option Row)->(Ex->List AV->List (Option Row)->Option aj)->Option aj
structure Loop where
 N:Norm
 L:Uf
def tf(N:Norm)(st:bC):List AV:=N.dr.map λi=>st.tm.getD i .J
def ux(N:Norm)(st:bC):List (Option Row):=N.rows.map λi=>lookup st.rows i
def vA:List AV->List Nat->List AV->List AV
 |tm,i::is,v::vs=>vA (tm.set i v) is vs
 |tm,_,_=>tm
def BH:List Nat->List (Option Row)->List (Nat×Row)
 |i::is,some r::rs=>(i,r)::BH is rs
 |_::is,none::rs=>BH is rs
 |_,_=>[]
def expand(N:Norm)(vs:List AV)(rs:List (Option Row)):bC:=⟨vA (List.replicate N.len .J) N.dr vs,BH N.rows rs,N.rows⟩
def iter(N:Norm)(body:bC->Option (Ex×bC)):Nat->List AV->List (Option Row)->Option (Ex×List AV×List (Option Row))
 |0,_,_=>none
 |n+1,vs,rs=>
  match body (expand N vs rs)with
  |none=>none
  |some p=>if Nat.beq p.2.tm.length N.len then(match p.1 with
   |.normal=>iter N body n (tf N (norm N p.2)) (ux N (norm N p.2))
   |e=>some (e,tf N (norm N p.2),ux N (norm N p.2)))else none
noncomputable def both(a b:Option aj):Option aj:=@ite _ (a=b) (Classical.propDecidable _) a none
def afn{a b:Option aj}{r:aj}(h:both a b=some r):a=some r/\b=some r:=by
 unfold both at h;split at h
 .rename_i e;exact⟨h,e▸h⟩
 .cases h
def BI(a:Option aj):both a a=a:=by unfold both;rw[dE rfl]
def mP:Code->Nat
 |.region id _ _=>id
 |.seq a _=>mP a
 |.block _ b=>mP b
 |.loop b=>mP b
 |.scope b=>mP b
 |.cond _ a _=>mP a
 |_=>0
def rS:Code->List (Array Tmp×Code×Code)
 |.seq a b=>rS a++rS b
 |.cond _ a b=>rS a++rS b
 |.block _ b=>rS b
 |.loop b=>rS b
 |.rangeFunc _ bj a b=>[(bj,a,b)]
 |_=>[]
def vB(key:Int)(st:bC):Row:=.box false (.tup [.int .i64 key]::AV.qc (ze st.rows) st.tm)
def D6(site:Nat)(st:bC)(k:Ex->bC->Option aj):Option aj:=
 match lookup st.rows site with
 |some (.box false (.tup [.int _ _]::_))=>k .normal (zf st site)
 |some (.box false (.tup [.int _ _,.bool true]::_))=>k .ret (zf st site)
 |_=>none
def BJ(f:(aj:Type)->bC->(Ex->bC->Option aj)->Option aj):Nat->(aj:Type)->bC->(Ex->bC->Option aj)->Option aj
 |0,_,_,_=>none
 |n+1,aj,st,k=>f aj st λe bB=>match e with
  |.normal=>BJ f n aj bB k
  |e=>k e bB
noncomputable def er(P:Program)(aq:Env)(K:List (Nat×Loop)):Code->(aj:Type)->bC->(Ex->bC->Option aj)->Option aj
 |.skip,_,st,k=>k .normal st
 |.label _,_,st,k=>k .normal st
 |.region id ops draw,_,st,k=>
  if Nat.ble ops.size 64 then
   (if draw then
    (if xm aq ops st.tm&&Nat.blt id 67108864 then gI P aq id ops.toList (some (ancTab ops.toList)) (λbB=>k .normal bB) 0 ops.toList st else none)
   else gI P aq id ops.toList none (λbB=>k .normal bB) 0 ops.toList st)
  else none
 |.seq a b,aj,st,k=>er P aq K a aj st λe bB=>match e with
  |.normal=>er P aq K b aj bB k
  |e=>k e bB
 |.cond c a b,aj,st,k=>
  match val st.tm c with
  |.bool t=>bif t then er P aq K a aj st k else er P aq K b aj st k
  |.jC=>if aq.fork then both (er P aq K a aj st k) (er P aq K b aj st k)else none
  |_=>none
 |.block id b,aj,st,k=>er P aq K b aj st λe bB=>match e with
  |.exit i=>if i=id then k .normal bB else k (.exit i) bB
  |e=>k e bB
 |.loop b,aj,st,k=>
  match lH K (mP b)with
  |some l=>
   if Nat.beq st.tm.length l.N.len then(norm l.N st).force λeU=>l.L aj (tf l.N eU) (ux l.N eU) λe vs rs=>k e (expand l.N vs rs)
   else none
  |none=>BJ (λaj st k=>er P aq K b aj st k) aq.vy aj st k
 |.exit id,_,st,k=>k (.exit id) st
 |.ret,_,st,k=>k .ret st
 |.rangeFunc g _ _ body,_,st,k=>
  match lH aq.j4 (mP body)with
  |some (key,site)=>
   match val st.tm g with
   |.fn iB gF=>
    match q4 aq iB with
    |some F=>
     if(entersB P iB&&hasBody P iB)&&(!st.used.contains site&&Nat.blt site aE)then
      nw site F (.own site::gF) (setRow st.rows site (vB key st)) λe=>if gX site e (site::st.used)then(apply site none e ⟨st.tm,setRow st.rows site (vB key st),site::st.used⟩).force λhG=>D6 site hG k else none
     else none
    |none=>none
   |_=>none
  |none=>none
 |_,_,_,_=>none
def c7:Code->List Code
 |.seq a b=>c7 a++c7 b
 |.cond _ a b=>c7 a++c7 b
 |.block _ b=>c7 b
 |.loop b=>b::c7 b
 |_=>[]
def D7(P:Program)(rows:List (Nat×Row))(tm:List AV):ResultVar->Option AV
 |.tmp t=>some (tm.getD t .J)
 |.cell t ty=>
  match tm.getD t .J with
  |.ptr id off=>match lookup rows id with
   |some (.box _ cs)=>lJ P ty (cs.drop off) λv=>some v
   |_=>none
  |_=>none
def uy(P:Program)(rows:List (Nat×Row))(tm:List AV):List ResultVar->Option (List AV)
 |[]=>some []
 |r::rs=>match D7 P rows tm r with
  |some v=>match uy P rows tm rs with
   |some vs=>some (v::vs)
   |none=>none
  |none=>none
def one:List AV->AV
 |[v]=>v
 |vs=>.tup vs
def HH(P:Program)(fn:Func)(st:bC)(k:AV->Option aj):Option aj:=
 match uy P st.rows st.tm fn.results.toList with
 |some vs=>
  match dp (cB st.rows depth) vs with
  |some p=>k (one (AV.lG p.1))
  |none=>none
 |none=>none
def finish(P:Program)(fn:Func)(st:bC)(k:AV->Option aj):Option aj:=
 match uy P st.rows st.tm fn.results.toList with
 |some [.sub id lo n]=>
  match lookup st.rows id with
  |some (.arr _ s _ es _)=>bif decide (lo+n<=es.length)then k (.ab s ((es.drop lo).take n))else none
  |_=>none
 |some vs=>
  match dp (cB st.rows depth) vs with
  |some p=>k (one (AV.lG p.1))
  |none=>none
 |none=>none
def MO(P:Program)(fn:Func)(st:bC)(k:AV->Option aj):finish P fn st k=HH P fn st k:=by
 unfold finish HH;cases uy P st.rows st.tm fn.results.toList with
 |none=>rfl
 |some vs=>
  split
  .rename_i id lo n he;cases he;show _=match dp (cB st.rows 12) [.sub id lo n]with
     |some p=>k (one (AV.lG p.1))
     |none=>none
   have e:cB st.rows 12 (.sub id lo n)=match lookup st.rows id with
    |some (.arr _ s _ es _)=>if lo+n<=es.length then some (.ab s ((es.drop lo).take n),[id])else none
    |_=>none:=rfl
   have bc:∀x,dp (cB st.rows 12) [x]=match cB st.rows 12 x with
    |none=>none
    |some p=>some ([p.1],p.2++[]):=λx=>rfl
   rw[bc,e];generalize lookup st.rows id=L;cases L with
   |none=>rfl
   |some r=>
    cases r with
    |box _ _=>rfl
    |cj _ _ _ _ _ _=>rfl
    |arr i s e es sp=>
     dsimp only;by_cases h:lo+n<=es.length
     .rw[dE h,aS h];rfl
     .rw[c0 h,cZ h];rfl
  .rename_i he;cases he;rfl
  .rename_i he;cases he
noncomputable def jc(P:Program)(aq:Env)(K:List (Nat×Loop))(fn:Func):Summ:=λaj args k=>
 match fn.body with
 |none=>none
 |some c=>(bC.mk (args++List.replicate (fn.ntmps-args.length) .undef) [] []).force λst=>er P aq K c aj st λe st=>match e with
  |.ret=>finish P fn st k
  |.normal=>finish P fn st k
  |.exit _=>none
def rowsOf(rows:List (Nat×Row)):List Nat->Option (List Row)
 |[]=>some []
 |i::is=>
  match rowsOf rows is with
  |none=>none
  |some q=>
   match lookup rows i with
   |some r=>some (r::q)
   |none=>none
def toR(ids:List Nat)(i:Nat):Option Nat:=if Nat.ble aE i then some i else(idx ids i).map (bY+ ·)
def r5(rows:List (Nat×Row)):Nat->Nat->List (Option Row)
 |0,_=>[]
 |n+1,b=>lookup rows b::r5 rows n (b+1)
def HI:List (Option Row)->List AV
 |[]=>[]
 |some (.box false cs)::rs=>cs++HI rs
 |_::rs=>HI rs
def tg(P:Program)(fn:Func)(np:Nat)(st:bC)(k:AV->List (Option Row)->List Row->Option aj):Option aj:=
 match uy P st.rows st.tm fn.results.toList with
 |none=>none
 |some vs=>
  match dp (ij st.rows depth) vs with
  |none=>none
  |some p=>
   match(reach (il p.2 st.rows) depth (p.1++HI (r5 (il p.2 st.rows) np aE)) []).filter (λi=>Nat.blt i aE)with
   |ids=>
    match rowsOf (il p.2 st.rows) ids with
    |none=>none
    |some cf=>
     if nodupB ids&&(Nat.ble np 1000000&&Nat.ble ids.length 1000000)then
      k (one (AV.lG (AV.nt (toR ids) p.1))) ((r5 (il p.2 st.rows) np aE).map λr=>r.map λr=>(r.forget).iN (toR ids)) (cf.map λr=>(r.forget).iN (toR ids))
     else none
def MP(st:bC)(x:Nat×Nat×TypeId)(k:bC->Option aj):Option aj:=
 if x.1=Ue then k (zf st x.2.1)else
 if st.used.contains x.2.1||Nat.ble aE x.2.1 then k st else
 match st.tm.getD x.1 .J with
 |.sub id 0 n=>
  match lookup st.rows id with
  |some (.arr false s e es _)=>bif Nat.ble n es.length then k ⟨st.tm.set x.1 (.own x.2.1),setRow (mn st.rows id) x.2.1 (.arr false s e (es.take n) none),x.2.1::st.used⟩else none
  |_=>k st
 |_=>k (qg st x)
def homes{aj:Type}:List (Nat×Nat×TypeId)->bC->(bC->Option aj)->Option aj
 |[],st,k=>k st
 |x::l,st,k=>MP st x λst=>homes l st k
noncomputable def th(P:Program)(aq:Env)(K:List (Nat×Loop))(H:List (Nat×Nat×TypeId))(fn:Func):jD:=λaj args rows k=>
 match fn.body with
 |none=>none
 |some c=>(bC.mk (args++List.replicate (fn.ntmps-args.length) .undef) (ik aE rows) (List.range' aE rows.length)).force λst=>er P aq K c aj st λe st=>match e with
  |.ret=>homes H st λst=>tg P fn rows.length st k
  |.normal=>homes H st λst=>tg P fn rows.length st k
  |.exit _=>none
end Go.Ev
