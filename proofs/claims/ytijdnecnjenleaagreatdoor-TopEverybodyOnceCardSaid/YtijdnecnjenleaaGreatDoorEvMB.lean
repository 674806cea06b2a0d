/-
 Elements that are cleared;room that is appended.
-/
import Derived.Test.YtijdnecnjenleaaGreatDoorEvJ
import Derived.Laws.Tables
import Derived.IntWalk
import Derived.Laws.MakeOwn
import Derived.Lib.ConvBytes
import Derived.Laws.BytesString

namespace Go.Ev
open Go.RowKit
section ops
variable {R : Option Nat} {ρ : Type} {P : Program} {w0 w : World} {S0 S : Nat → Prop} {B : Ctx} {β : Bet} {og : Nat → Option Nat} {st : St} {a : Act} {o : Oper} {site : Nat} {y : Eff → Option ρ} {r : ρ}
 {K : Act → World → Prop} {Q : Exit → Act → World → Prop}
theorem mkAV_cells {s : Sh} {cs : List AV} (h : hasSh s (mkAV s cs) = true) (hl : cs.length = s.width) : (mkAV s cs).cells = cs:=by
 cases s with
 | agg l=>rfl
 | other =>
  have h1 : has1 .other (mkAV .other cs) = true:=h
  obtain ⟨e1,_⟩:=has1_cells _ _ h1
  rw [e1]
  match cs,hl with
  | [c],_=>rfl
 | int k=>
  have h1 : has1 (.int k) (mkAV (.int k) cs) = true:=h
  obtain ⟨e1,_⟩:=has1_cells _ _ h1
  rw [e1]
  match cs,hl with
  | [c],_=>rfl
 | bool =>
  have h1 : has1 .bool (mkAV .bool cs) = true:=h
  obtain ⟨e1,_⟩:=has1_cells _ _ h1
  rw [e1]
  match cs,hl with
  | [c],_=>rfl
 | str =>
  have h1 : has1 .str (mkAV .str cs) = true:=h
  obtain ⟨e1,_⟩:=has1_cells _ _ h1
  rw [e1]
  match cs,hl with
  | [c],_=>rfl
 | slice s =>
  have h1 : has1 (.slice s) (mkAV (.slice s) cs) = true:=h
  obtain ⟨e1,_⟩:=has1_cells _ _ h1
  rw [e1]
  match cs,hl with
  | [c],_=>rfl
theorem flat_set {s : Sh} : ∀ (es : List AV) (i : Nat) (x : AV),(∀ e ∈ es,hasSh s e = true) → hasSh s x = true → i < es.length → flat (es.set i x) = (flat es).take (i * s.width) ++ x.cells ++ (flat es).drop (i * s.width + s.width)
 | [],i,x,_,_,h=>by simp at h
 | e :: es,0,x,hs,hx,_=>by
  have hw:=hasSh_width s e (hs e (by simp))
  simp only [List.set_cons_zero,flat,List.flatMap_cons,Nat.zero_mul,List.take_zero,List.nil_append,Nat.zero_add,← hw]
  simp
 | e :: es,i + 1,x,hs,hx,h=>by
  have hw:=hasSh_width s e (hs e (by simp))
  have ih:=flat_set es i x (fun y hy=>hs y (by simp [hy])) hx (by simpa using h)
  simp only [List.set_cons_succ]
  simp only [flat,List.flatMap_cons] at ih ⊢
  have e1 : (i + 1) * s.width = e.cells.length + i * s.width:=by rw [hw,Nat.add_mul,Nat.one_mul,Nat.add_comm]
  have e2 : e.cells.length + i * s.width + s.width = e.cells.length + (i * s.width + s.width):=by omega
  rw [ih,e1,e2,List.take_length_add_append,List.drop_length_add_append]
  simp
theorem etas_length : ∀ (l : List Sh) (cs : List AV),(etas l cs).length = l.length
 | [],_=>rfl
 | s :: l,cs=>by simp [etas,etas_length l]
theorem take_drop_mid {α : Type} (xs ys : List α) (p q n : Nat) (hq : q + ys.length ≤ n) (hn : p + n ≤ xs.length) :
  xs.take p ++ (((xs.drop p).take n).take q ++ ys ++ ((xs.drop p).take n).drop (q + ys.length)) ++ xs.drop (p + n) = xs.take (p + q) ++ ys ++ xs.drop (p + q + ys.length):=by
 have hl : n ≤ (xs.drop p).length:=by simp;omega
 have e1 : ((xs.drop p).take n).take q = (xs.drop p).take q:=by rw [List.take_take];congr 1;omega
 have e2 : ((xs.drop p).take n).drop (q + ys.length) ++ xs.drop (p + n) = xs.drop (p + q + ys.length):=by
  have : xs.drop (p + q + ys.length) = (xs.drop p).drop (q + ys.length):=by rw [List.drop_drop];congr 1;omega
  rw [this]
  have h2 : xs.drop (p + n) = (xs.drop p).drop n:=by rw [List.drop_drop]
  rw [h2]
  generalize xs.drop p = zs at hl
  conv=>rhs;rw [← List.take_append_drop n zs]
  rw [List.drop_append_of_le_length (by simp;omega)]
 rw [e1]
 simp only [List.append_assoc]
 rw [e2,← List.append_assoc,← List.take_add]
theorem take_right {α : Type} (A B u : List α) (k n : Nat) : (A ++ B).take (A.length + k) ++ u ++ (A ++ B).drop (A.length + k + n) = A ++ (B.take k ++ u ++ B.drop (k + n)):=by
 rw [List.take_length_add_append,Nat.add_assoc,List.drop_length_add_append]
 simp [List.append_assoc]
theorem op_store_elem (hR : Rel w S B β og st a) (hO : Out w0 S0 B w S) {rowsV : List (Nat × Row)} (hsub : ∀ id x,lookup rowsV id = some x → lookup st.rows id = some x) {t e : TypeId} {x z : Operand} {id i off : Nat} {s : Sh} {es : List AV} {v' : AV} {ids : List Nat} (ho : o.op = .store t x z)
  (hx : val st.tm x = .eptr id i off) (hpur : pur1 rowsV depth (valT P st.tm t z) = some (v',ids)) {csp : Option (List AV)} (hl : lookup rowsV id = some (.arr false s e es csp)) (hnid : ids.contains id = false) (hlaid : v'.laidB = true) (hn : v'.cells.length = P.cellsOf t) (hn0 : P.cellsOf t ≠ 0)
  (hle : off + P.cellsOf t ≤ s.width) (hnew : hasSh s (mkAV s (splice (etaCells s (es.getD i .unk)) off v'.cells)) = true) (hi : i < es.length)
  (hy : y { v:=.undef,mod:=some (id,.arr false s e (es.set i (mkAV s (splice (etaCells s (es.getD i .unk)) off v'.cells))) csp),imm:=ids } = some r) (hK : Good w0 S0 B site o st y r K) : o.wpR R P a w K Q:=by
 have hin : ∀ id ∈ ids,∃ r,lookup st.rows id = some r:=fun id hid=>by obtain ⟨r,hr⟩:=pur1_in _ _ _ hpur id hid;exact ⟨r,hsub _ _ hr⟩
 have hpv:=pur1_sound (w:=w) (S:=S) (B:=B) (β:=β) (og:=og) (rows:=rowsV) (fun id x hx=>hR.row id x (hsub _ _ hx)) depth _ _ _ _ hpur (valT_rel hR.tm P t z)
 obtain ⟨us,huc,hus,hu1⟩:=hpv.laid hlaid (fun _ _ h=>by cases h)
 have hF:=hR.freeze ids
 have hOF:=hO.freeze hR ids hin
 have hnot : id ∉ ids:=by simpa using hnid
 have hlF : lookup (setImm ids st.rows) id = some (.arr false s e es csp):=by rw [lookup_setImm,hsub _ _ hl];simp [hnot]
 obtain ⟨hp,v,sp,xs,hshS,hcs,hbt,h1,hvs,hor⟩:=hF.row id _ hlF
 have hsh : ∀ x ∈ es,hasSh s x = true:=fun x hx=>hshS x (List.mem_append_left _ hx)
 have hpx:=val_rel hR.tm x
 rw [hx] at hpx
 obtain ⟨ii,hii,hisz⟩:=cellsOf_info hn0
 have hul : us.length = P.cellsOf t:=by rw [hus.1];exact hn
 generalize he : a.eval x = u at hpx
 cases hpx with
 | eptr _ _ _ _ g n c wd bo hb' =>
  rw [hbt] at hb'
  simp only [Option.some.injEq,Prod.mk.injEq] at hb'
  obtain ⟨rfl,rfl⟩:=hb'
  rcases hor with ⟨he0,_⟩ | ⟨g',ps,hog,hvv,hBg,hh,hmx,him,_⟩
  ·subst he0;simp at hi
  ·simp at hvv
   obtain ⟨⟨rfl,rfl⟩,rfl,rfl⟩:=hvv
   have hw : s.width ≤ s.width * es.length - s.width * i:=by
    have : s.width * (i + 1) ≤ s.width * es.length:=Nat.mul_le_mul_left _ hi
    rw [Nat.mul_add,Nat.mul_one] at this
    omega
   have hbound : i * s.width + s.width ≤ es.length * s.width:=by
    have : (i + 1) * s.width ≤ es.length * s.width:=Nat.mul_le_mul_right _ hi
    rwa [Nat.add_mul,Nat.one_mul] at this
   have hxl : xs.length = es.length * s.width + sp.length * s.width:=by rw [hvs.1,flat_length _ hshS,List.length_append,Nat.add_mul]
   have hiE : i < (es ++ sp).length:=by rw [List.length_append];omega
   have hst:=hh.stores (P:=P) (ps.length + (i * s.width + off)) us 0 (by simp;omega) hu1
   simp only [Nat.add_zero,take_right] at hst
   have hnS : ∀ g',og id = some g' → ¬ With S og ids g':=fun g' hg'=>by rw [hog] at hg';cases hg';exact him rfl
   have hgr:=grownBy_setRow w g (ps ++ (xs.take (i * s.width + off) ++ us ++ xs.drop (i * s.width + off + us.length))).toArray
   have hwk : ∀ b,With S og ids b → (w.setRow g (ps ++ (xs.take (i * s.width + off) ++ us ++ xs.drop (i * s.width + off + us.length))).toArray).heap[b]? = w.heap[b]?:=fun b hs=>hgr.block b (hF.Slt b hs) (fun e=>by cases e;exact him rfl hs)
   have hgd : es[i]? = some es[i]:=List.getElem?_eq_getElem hi
   have hgD : es.getD i .unk = es[i]:=by simp [List.getD,hgd]
   have hsi : hasSh s es[i] = true:=hsh _ (List.getElem_mem hi)
   have hel : VRels w (With S og ids) nob (etaCells s (es.getD i .unk)) ((xs.drop (i * s.width)).take s.width):=by
    have hvv:=(hvs.drop (i * s.width)).take s.width
    rw [flat_at (es ++ sp) i es[i] hshS (by rw [List.getElem?_append_left hi];exact hgd)] at hvv
    rw [hgD]
    exact etas_rel _ _ _ (hasSh_hass s _ hsi) hvv
   have hetl : (etaCells s (es.getD i .unk)).length = s.width:=etas_length _ _
   have hspl : (splice (etaCells s (es.getD i .unk)) off v'.cells).length = s.width:=by
    simp only [splice,List.length_append,List.length_take,List.length_drop,hetl]
    omega
   have hnc:=mkAV_cells hnew hspl
   have hrow : RowRel (w.setRow g (ps ++ (xs.take (i * s.width + off) ++ us ++ xs.drop (i * s.width + off + us.length))).toArray) (With S og ids) B β id (og id) (.arr false s e (es.set i (mkAV s (splice (etaCells s (es.getD i .unk)) off v'.cells))) csp):=by
    have hset : es.set i (mkAV s (splice (etaCells s (es.getD i .unk)) off v'.cells)) ++ sp = (es ++ sp).set i (mkAV s (splice (etaCells s (es.getD i .unk)) off v'.cells)):=by
     rw [List.set_append_left _ _ hi]
    refine ⟨hp,_,sp,xs.take (i * s.width + off) ++ us ++ xs.drop (i * s.width + off + us.length),fun y hy=>?_,hcs,hbt,fun u hu=>?_,?_,.inr ⟨g,ps,hog,by rw [List.length_set],hBg,hh.setRow (by simp only [List.size_toArray,List.length_append,List.length_take,List.length_drop];omega),by rw [List.length_set];exact hmx,fun _=>him rfl,(fun h=>by cases h)⟩⟩
    ·rw [hset] at hy
     rcases List.mem_or_eq_of_mem_set hy with h | h
     ·exact hshS y h
     ·rw [h];exact hnew
    ·simp only [List.mem_append] at hu
     rcases hu with (hu | hu) | hu
     ·exact h1 u (List.mem_of_mem_take hu)
     ·exact hu1 u hu
     ·exact h1 u (List.mem_of_mem_drop hu)
    ·refine VRels.mono (w:=w) (S:=With S og ids) (β:=nob) ?_ (fun _ h=>h) hwk (fun _ _ h=>h)
     rw [hset,flat_set (es ++ sp) i _ hshS hnew hiE,hnc,← take_drop_mid xs us (i * s.width) off s.width (by omega) (by omega)]
     exact ((hvs.take (i * s.width)).append (hel.splice hus off)).append (hvs.drop (i * s.width + s.width))
   have hM:=hF.modify (id:=id) (by rw [hog];exact hgr) (by simp [World.setRow]) hnS hrow
   have hM':=hM.congr (rows':=applyRows site { v:=.undef,mod:=some (id,.arr false s e (es.set i (mkAV s (splice (etaCells s (es.getD i .unk)) off v'.cells))) csp),imm:=ids } st.rows) (fun k=>by
    have : applyRows site { v:=.undef,mod:=some (id,.arr false s e (es.set i (mkAV s (splice (etaCells s (es.getD i .unk)) off v'.cells))) csp),imm:=ids } st.rows = setImm ids (setRow st.rows id (.arr false s e (es.set i (mkAV s (splice (etaCells s (es.getD i .unk)) off v'.cells))) csp)):=by
     simp only [applyRows,List.foldl_nil]
     cases ids with
     | nil=>rw [setImm_nil]
     | cons i is=>rfl
    rw [this,lookup_setImm,lookup_setRow,lookup_setRow,lookup_setImm]
    by_cases e : k = id
    ·subst e;simp [hnot]
    ·simp [e])
   refine wp_skip' (w':=w.setRow g (ps ++ (xs.take (i * s.width + off) ++ us ++ xs.drop (i * s.width + off + us.length))).toArray) ?_ (hK _ _ _ hy ⟨_,β,og,hM'.put o.dst (.undef _),hOF.grownBy hF.Ble hgr (fun k hk=>by cases hk;exact hBg)⟩)
   have hsz' : (a.eval z).cells.size = ii.size:=by rw [huc,hisz,← hul];simp
   simp only [execOp,ho,he,Instr.storeAt,Instr.sureAddr,pure_bind,storeVar,sizeOf,typeInfo,Sem.run_bind,run_program,Result.andThen_ok,hii,Sem.run_pure,hsz']
   simp [huc,hst]
theorem take_left_of {α : Type} (A B u : List α) (k n : Nat) (h : k + n ≤ A.length) : (A ++ B).take k ++ u ++ (A ++ B).drop (k + n) = (A.take k ++ u ++ A.drop (k + n)) ++ B:=by
 rw [List.take_append_of_le_length (by omega),List.drop_append_of_le_length h]
 simp [List.append_assoc]
theorem splice_one {vs us : List Value} {m n : Nat} (h1 : ∀ u ∈ vs,u.oneCell' = true) (h2 : ∀ u ∈ us,u.oneCell' = true) : ∀ u ∈ vs.take m ++ us ++ vs.drop n,u.oneCell' = true:=fun u hu=>by
 simp only [List.mem_append] at hu
 rcases hu with (hu | hu) | hu
 ·exact h1 u (List.mem_of_mem_take hu)
 ·exact h2 u hu
 ·exact h1 u (List.mem_of_mem_drop hu)
theorem set_rels {w : World} {S : Nat → Prop} {s : Sh} {es : List AV} {xs us : List Value} {i off : Nat} {ns : List AV} (hsh : ∀ x ∈ es,hasSh s x = true) (hvs : VRels w S nob (flat es) xs) (hus : VRels w S nob ns us) (hi : i < es.length)
  (hle : off + us.length ≤ s.width) (hnew : hasSh s (mkAV s (splice (etaCells s (es.getD i .unk)) off ns)) = true) :
  VRels w S nob (flat (es.set i (mkAV s (splice (etaCells s (es.getD i .unk)) off ns)))) (xs.take (i * s.width + off) ++ us ++ xs.drop (i * s.width + off + us.length)):=by
 have hgd : es[i]? = some es[i]:=List.getElem?_eq_getElem hi
 have hgD : es.getD i .unk = es[i]:=by simp [List.getD,hgd]
 have hsi : hasSh s es[i] = true:=hsh _ (List.getElem_mem hi)
 have hbound : i * s.width + s.width ≤ es.length * s.width:=by
  have : (i + 1) * s.width ≤ es.length * s.width:=Nat.mul_le_mul_right _ hi
  rwa [Nat.add_mul,Nat.one_mul] at this
 have hxl : xs.length = es.length * s.width:=by rw [hvs.1,flat_length _ hsh]
 have hel : VRels w S nob (etaCells s (es.getD i .unk)) ((xs.drop (i * s.width)).take s.width):=by
  have hvv:=(hvs.drop (i * s.width)).take s.width
  rw [flat_at es i es[i] hsh hgd] at hvv
  rw [hgD]
  exact etas_rel _ _ _ (hasSh_hass s _ hsi) hvv
 have hetl : (etaCells s (es.getD i .unk)).length = s.width:=etas_length _ _
 have hspl : (splice (etaCells s (es.getD i .unk)) off ns).length = s.width:=by
  have:=hus.1
  simp only [splice,List.length_append,List.length_take,List.length_drop,hetl]
  omega
 rw [flat_set es i _ hsh hnew hi,mkAV_cells hnew hspl,← take_drop_mid xs us (i * s.width) off s.width (by omega) (by omega)]
 exact ((hvs.take (i * s.width)).append (hel.splice hus off)).append (hvs.drop (i * s.width + s.width))
theorem op_store_row (hR : Rel w S B β og st a) (hO : Out w0 S0 B w S) {ids : List Nat} (hin : ∀ id ∈ ids,∃ r,lookup st.rows id = some r) {t : TypeId} {x z : Operand} {id g k : Nat} {L : List Value} {e : TypeId} {m : Bool} {us : List Value} {r0 r1 : Row} (ho : o.op = .store t x z)
  (he : a.eval x = .pointer (some ⟨g,k,none⟩)) (hl : lookup st.rows id = some r0) (hnot : id ∉ ids) (hog : og id = some g) (him : ¬ With S og ids g) (hBg : ¬ B g) (hh : Lies w g L.toArray e m) (huc : (a.eval z).cells = us.toArray) (hu1 : ∀ u ∈ us,u.oneCell' = true)
  (hul : us.length = P.cellsOf t) (hn0 : P.cellsOf t ≠ 0) (hb : k + us.length ≤ L.length)
  (hrow : (∀ b,With S og ids b → (w.setRow g (L.take k ++ us ++ L.drop (k + us.length)).toArray).heap[b]? = w.heap[b]?) → Lies (w.setRow g (L.take k ++ us ++ L.drop (k + us.length)).toArray) g (L.take k ++ us ++ L.drop (k + us.length)).toArray e m →
   RowRel (w.setRow g (L.take k ++ us ++ L.drop (k + us.length)).toArray) (With S og ids) B β id (og id) r1)
  (hy : y { v:=.undef,mod:=some (id,r1),imm:=ids } = some r) (hK : Good w0 S0 B site o st y r K) : o.wpR R P a w K Q:=by
 have hF:=hR.freeze ids
 have hOF:=hO.freeze hR ids hin
 obtain ⟨ii,hii,hisz⟩:=cellsOf_info hn0
 have hst:=hh.stores (P:=P) k us 0 (by simpa using hb) hu1
 simp only [Nat.add_zero] at hst
 have hnS : ∀ g',og id = some g' → ¬ With S og ids g':=fun g' hg'=>by rw [hog] at hg';cases hg';exact him
 have hgr:=grownBy_setRow w g (L.take k ++ us ++ L.drop (k + us.length)).toArray
 have hwk : ∀ b,With S og ids b → (w.setRow g (L.take k ++ us ++ L.drop (k + us.length)).toArray).heap[b]? = w.heap[b]?:=fun b hs=>hgr.block b (hF.Slt b hs) (fun e=>by cases e;exact him hs)
 have hrow':=hrow hwk (hh.setRow (by simp only [List.size_toArray,List.length_append,List.length_take,List.length_drop];omega))
 have hM:=hF.modify (id:=id) (by rw [hog];exact hgr) (by simp [World.setRow]) hnS hrow'
 have hM':=hM.congr (rows':=applyRows site { v:=.undef,mod:=some (id,r1),imm:=ids } st.rows) (fun k=>by
  have : applyRows site { v:=.undef,mod:=some (id,r1),imm:=ids } st.rows = setImm ids (setRow st.rows id r1):=by
   simp only [applyRows,List.foldl_nil]
   cases ids with
   | nil=>rw [setImm_nil]
   | cons i is=>rfl
  rw [this,lookup_setImm,lookup_setRow,lookup_setRow,lookup_setImm]
  by_cases e : k = id
  ·subst e;simp [hnot]
  ·simp [e])
 refine wp_skip' (w':=w.setRow g (L.take k ++ us ++ L.drop (k + us.length)).toArray) ?_ (hK _ _ _ hy ⟨_,β,og,hM'.put o.dst (.undef _),hOF.grownBy hF.Ble hgr (fun k hk=>by cases hk;exact hBg)⟩)
 have hsz' : (a.eval z).cells.size = ii.size:=by rw [huc,hisz,← hul];simp
 simp only [execOp,ho,he,Instr.storeAt,Instr.sureAddr,pure_bind,storeVar,sizeOf,typeInfo,Sem.run_bind,run_program,Result.andThen_ok,hii,Sem.run_pure,hsz']
 simp [huc,hst]
theorem focOf_spec {rows : List (Nat × Row)} {id : Nat} {x : Sh × TypeId × List AV × List AV × List AV} (h : focOf rows id = some x) : lookup rows id = some (.foc false x.1 x.2.1 x.2.2.1 x.2.2.2.1 x.2.2.2.2):=by
 unfold focOf at h
 split at h
 ·rename_i hl
  cases h
  exact hl
 ·cases h
theorem op_store_hole (hR : Rel w S B β og st a) (hO : Out w0 S0 B w S) {t e : TypeId} {x z : Operand} {id off : Nat} {s : Sh} {pre cs post : List AV} (ho : o.op = .store t x z)
  (hx : val st.tm x = .eptr id pre.length off) (hl : lookup st.rows id = some (.foc false s e pre cs post)) (hlaid : (valT P st.tm t z).laidB = true) (hn : (valT P st.tm t z).cells.length = P.cellsOf t) (hn0 : P.cellsOf t ≠ 0)
  (hle : off + (valT P st.tm t z).cells.length ≤ cs.length)
  (hy : y { v:=.undef,mod:=some (id,.foc false s e pre (splice cs off (valT P st.tm t z).cells) post) } = some r) (hK : Good w0 S0 B site o st y r K) : o.wpR R P a w K Q:=by
 obtain ⟨us,huc,hus,hu1⟩:=(valT_rel hR.tm P t z).laid hlaid hR.one
 have hpx:=val_rel hR.tm x
 rw [hx] at hpx
 obtain ⟨hpos,hcl,g,ps,sp,xs,vs,ys,hpre,hpost,hog,hbt,h1,vx,vu,vy,hBg,hh,hm,hi,_⟩:=hR.row id _ hl
 have lx : xs.length = pre.length * s.width:=vx.1.trans (flat_length pre hpre)
 have hul : us.length = P.cellsOf t:=by rw [hus.1];exact hn
 generalize he : a.eval x = u at hpx
 cases hpx with
 | eptr _ _ _ _ g' n c wd bo hb' =>
  rw [hbt] at hb'
  simp only [Option.some.injEq,Prod.mk.injEq,Value.slice.injEq,Addr.mk.injEq] at hb'
  obtain ⟨⟨⟨rfl,rfl,_⟩,_⟩,rfl⟩:=hb'
  have lv : vs.length = cs.length:=vu.1
  have hb : ps.length + (xs.length + off) + us.length ≤ (ps ++ (xs ++ (vs ++ ys))).length:=by
   have:=hus.1
   simp only [List.length_append]
   omega
  have hL : (ps ++ (xs ++ (vs ++ ys))).take (ps.length + (xs.length + off)) ++ us ++ (ps ++ (xs ++ (vs ++ ys))).drop (ps.length + (xs.length + off) + us.length) = ps ++ (xs ++ ((vs.take off ++ us ++ vs.drop (off + us.length)) ++ ys)):=by
   rw [take_right,take_right,take_left_of vs ys us off us.length (by have:=hus.1;omega)]
  refine op_store_row hR hO (ids:=[]) (fun _ h=>by cases h) ho (k:=ps.length + (xs.length + off)) (by rw [he,lx]) hl (by simp) hog (fun h=>?_) hBg hh huc hu1 hul hn0 hb (fun hwk hlies=>?_) hy hK
  ·rcases h with h | ⟨i,hi',_⟩
   ·exact hi rfl h
   ·cases hi'
  ·rw [hL] at hwk hlies ⊢
   have mv : ∀ {β' : Bet} {c : List AV} {v : List Value},VRels w S β' c v → VRels (w.setRow g (ps ++ (xs ++ ((vs.take off ++ us ++ vs.drop (off + us.length)) ++ ys))).toArray) (With S og []) β' c v:=fun h=>(h.keepS (S':=With S og []) fun b=>With.left).mono (fun _ h=>h) hwk (fun _ _ h=>h)
   refine ⟨hpos,?_,g,ps,sp,xs,vs.take off ++ us ++ vs.drop (off + us.length),ys,hpre,hpost,hog,hbt,fun u hu=>?_,mv vx,mv (vu.splice hus off),mv vy,hBg,hlies,hm,fun _ h=>?_,(fun h=>by cases h)⟩
   ·have:=hus.1
    simp only [splice,List.length_append,List.length_take,List.length_drop]
    omega
   ·rcases List.mem_append.1 hu with hu | hu
    ·exact h1 u (List.mem_append_left _ hu)
    ·rcases List.mem_append.1 hu with hu | hu
     ·exact splice_one (fun u hu=>h1 u (by simp [hu])) hu1 u hu
     ·exact h1 u (by simp [hu])
   ·rcases h with h | ⟨i,hi',_⟩
    ·exact hi rfl h
    ·cases hi'
theorem op_store_pre (hR : Rel w S B β og st a) (hO : Out w0 S0 B w S) {rowsV : List (Nat × Row)} (hsub : ∀ id x,lookup rowsV id = some x → lookup st.rows id = some x) {t e : TypeId} {x z : Operand} {id i off : Nat} {s : Sh} {pre cs post : List AV} {v' : AV} {ids : List Nat} (ho : o.op = .store t x z)
  (hx : val st.tm x = .eptr id i off) (hpur : pur1 rowsV depth (valT P st.tm t z) = some (v',ids)) (hl : lookup rowsV id = some (.foc false s e pre cs post)) (hnid : ids.contains id = false) (hlaid : v'.laidB = true) (hn : v'.cells.length = P.cellsOf t) (hn0 : P.cellsOf t ≠ 0)
  (hle : off + P.cellsOf t ≤ s.width) (hnew : hasSh s (mkAV s (splice (etaCells s (pre.getD i .unk)) off v'.cells)) = true) (hi : i < pre.length)
  (hy : y { v:=.undef,mod:=some (id,.foc false s e (pre.set i (mkAV s (splice (etaCells s (pre.getD i .unk)) off v'.cells))) cs post),imm:=ids } = some r) (hK : Good w0 S0 B site o st y r K) : o.wpR R P a w K Q:=by
 have hin : ∀ id ∈ ids,∃ r,lookup st.rows id = some r:=fun id hid=>by obtain ⟨r,hr⟩:=pur1_in _ _ _ hpur id hid;exact ⟨r,hsub _ _ hr⟩
 have hpv:=pur1_sound (w:=w) (S:=S) (B:=B) (β:=β) (og:=og) (rows:=rowsV) (fun id x hx=>hR.row id x (hsub _ _ hx)) depth _ _ _ _ hpur (valT_rel hR.tm P t z)
 obtain ⟨us,huc,hus,hu1⟩:=hpv.laid hlaid (fun _ _ h=>by cases h)
 have hnot : id ∉ ids:=by simpa using hnid
 have hpx:=val_rel hR.tm x
 rw [hx] at hpx
 obtain ⟨hpos,hcl,g,ps,sp,xs,vs,ys,hpre,hpost,hog,hbt,h1,vx,vu,vy,hBg,hh,hm,him,_⟩:=hR.row id _ (hsub _ _ hl)
 have lx : xs.length = pre.length * s.width:=vx.1.trans (flat_length pre hpre)
 have hul : us.length = P.cellsOf t:=by rw [hus.1];exact hn
 generalize he : a.eval x = u at hpx
 cases hpx with
 | eptr _ _ _ _ g' n c wd bo hb' =>
  rw [hbt] at hb'
  simp only [Option.some.injEq,Prod.mk.injEq,Value.slice.injEq,Addr.mk.injEq] at hb'
  obtain ⟨⟨⟨rfl,rfl,_⟩,_⟩,rfl⟩:=hb'
  have hbound : i * s.width + s.width ≤ pre.length * s.width:=by
   have : (i + 1) * s.width ≤ pre.length * s.width:=Nat.mul_le_mul_right _ hi
   rwa [Nat.add_mul,Nat.one_mul] at this
  have hnS : ¬ With S og ids g:=fun h=>by
   rcases h with h | ⟨i',hi',hg'⟩
   ·exact him rfl h
   ·exact hnot (hR.inj id i' g hog hg' ▸ hi')
  have hL : (ps ++ (xs ++ (vs ++ ys))).take (ps.length + (i * s.width + off)) ++ us ++ (ps ++ (xs ++ (vs ++ ys))).drop (ps.length + (i * s.width + off) + us.length) = ps ++ ((xs.take (i * s.width + off) ++ us ++ xs.drop (i * s.width + off + us.length)) ++ (vs ++ ys)):=by
   rw [take_right,take_left_of _ _ _ _ _ (by omega)]
  refine op_store_row hR hO hin ho (k:=ps.length + (i * s.width + off)) he (hsub _ _ hl) hnot hog hnS hBg hh huc hu1 hul hn0 (by simp only [List.length_append];omega) (fun hwk hlies=>?_) hy hK
  rw [hL] at hwk hlies ⊢
  have mv : ∀ {β' : Bet} {c : List AV} {v : List Value},VRels w S β' c v → VRels (w.setRow g (ps ++ ((xs.take (i * s.width + off) ++ us ++ xs.drop (i * s.width + off + us.length)) ++ (vs ++ ys))).toArray) (With S og ids) β' c v:=fun h=>(h.keepS (S':=With S og ids) fun b=>With.left).mono (fun _ h=>h) hwk (fun _ _ h=>h)
  have hset:=(set_rels hpre (vx.keepS (S':=With S og ids) fun b=>With.left) hus hi (by omega) hnew).mono (fun _ h=>h) hwk (fun _ _ h=>h) (β':=nob)
  refine ⟨hpos,hcl,g,ps,sp,_,vs,ys,fun y hy=>?_,hpost,hog,by rw [List.length_set];exact hbt,fun u hu=>?_,hset,mv vu,mv vy,hBg,hlies,by rw [List.length_set];exact hm,fun _=>hnS,(fun h=>by cases h)⟩
  ·rcases List.mem_or_eq_of_mem_set hy with h | h
   ·exact hpre y h
   ·rw [h];exact hnew
  ·rcases List.mem_append.1 hu with hu | hu
   ·exact splice_one (fun u hu=>h1 u (by simp [hu])) hu1 u hu
   ·exact h1 u (List.mem_append_right _ hu)
theorem op_store_post (hR : Rel w S B β og st a) (hO : Out w0 S0 B w S) {rowsV : List (Nat × Row)} (hsub : ∀ id x,lookup rowsV id = some x → lookup st.rows id = some x) {t e : TypeId} {x z : Operand} {id i off : Nat} {s : Sh} {pre cs post : List AV} {v' : AV} {ids : List Nat} (ho : o.op = .store t x z)
  (hx : val st.tm x = .eptr id (pre.length + 1 + i) off) (hpur : pur1 rowsV depth (valT P st.tm t z) = some (v',ids)) (hl : lookup rowsV id = some (.foc false s e pre cs post)) (hnid : ids.contains id = false) (hlaid : v'.laidB = true) (hn : v'.cells.length = P.cellsOf t) (hn0 : P.cellsOf t ≠ 0)
  (hle : off + P.cellsOf t ≤ s.width) (hnew : hasSh s (mkAV s (splice (etaCells s (post.getD i .unk)) off v'.cells)) = true) (hi : i < post.length)
  (hy : y { v:=.undef,mod:=some (id,.foc false s e pre cs (post.set i (mkAV s (splice (etaCells s (post.getD i .unk)) off v'.cells)))),imm:=ids } = some r) (hK : Good w0 S0 B site o st y r K) : o.wpR R P a w K Q:=by
 have hin : ∀ id ∈ ids,∃ r,lookup st.rows id = some r:=fun id hid=>by obtain ⟨r,hr⟩:=pur1_in _ _ _ hpur id hid;exact ⟨r,hsub _ _ hr⟩
 have hpv:=pur1_sound (w:=w) (S:=S) (B:=B) (β:=β) (og:=og) (rows:=rowsV) (fun id x hx=>hR.row id x (hsub _ _ hx)) depth _ _ _ _ hpur (valT_rel hR.tm P t z)
 obtain ⟨us,huc,hus,hu1⟩:=hpv.laid hlaid (fun _ _ h=>by cases h)
 have hnot : id ∉ ids:=by simpa using hnid
 have hpx:=val_rel hR.tm x
 rw [hx] at hpx
 obtain ⟨hpos,hcl,g,ps,sp,xs,vs,ys,hpre,hpost,hog,hbt,h1,vx,vu,vy,hBg,hh,hm,him,_⟩:=hR.row id _ (hsub _ _ hl)
 have lx : xs.length = pre.length * s.width:=vx.1.trans (flat_length pre hpre)
 have lv : vs.length = s.width:=vu.1.trans hcl
 have ly : ys.length = (post ++ sp).length * s.width:=vy.1.trans (flat_length _ hpost)
 have hul : us.length = P.cellsOf t:=by rw [hus.1];exact hn
 generalize he : a.eval x = u at hpx
 cases hpx with
 | eptr _ _ _ _ g' n c wd bo hb' =>
  rw [hbt] at hb'
  simp only [Option.some.injEq,Prod.mk.injEq,Value.slice.injEq,Addr.mk.injEq] at hb'
  obtain ⟨⟨⟨rfl,rfl,_⟩,_⟩,rfl⟩:=hb'
  have hi' : i < (post ++ sp).length:=by rw [List.length_append];omega
  have hgd : (post ++ sp).getD i .unk = post.getD i .unk:=by rw [List.getD,List.getD,List.getElem?_append_left hi]
  have hbound : i * s.width + s.width ≤ (post ++ sp).length * s.width:=by
   have : (i + 1) * s.width ≤ (post ++ sp).length * s.width:=Nat.mul_le_mul_right _ hi'
   rwa [Nat.add_mul,Nat.one_mul] at this
  have hnS : ¬ With S og ids g:=fun h=>by
   rcases h with h | ⟨i',hi',hg'⟩
   ·exact him rfl h
   ·exact hnot (hR.inj id i' g hog hg' ▸ hi')
  have hk : (pre.length + 1 + i) * s.width + off = xs.length + (vs.length + (i * s.width + off)):=by
   rw [Nat.add_mul,Nat.add_mul,lx,lv];omega
  have hL : (ps ++ (xs ++ (vs ++ ys))).take (ps.length + (xs.length + (vs.length + (i * s.width + off)))) ++ us ++ (ps ++ (xs ++ (vs ++ ys))).drop (ps.length + (xs.length + (vs.length + (i * s.width + off))) + us.length) = ps ++ (xs ++ (vs ++ (ys.take (i * s.width + off) ++ us ++ ys.drop (i * s.width + off + us.length)))):=by
   rw [take_right,take_right,take_right]
  have hbb : ps.length + (xs.length + (vs.length + (i * s.width + off))) + us.length ≤ (ps ++ (xs ++ (vs ++ ys))).length:=by
   rw [List.length_append,List.length_append,List.length_append]
   omega
  refine op_store_row hR hO hin ho (L:=ps ++ (xs ++ (vs ++ ys))) (k:=ps.length + (xs.length + (vs.length + (i * s.width + off)))) (by rw [he,hk]) (hsub _ _ hl) hnot hog hnS hBg hh huc hu1 hul hn0 hbb (fun hwk hlies=>?_) hy hK
  rw [hL] at hwk hlies ⊢
  have mv : ∀ {β' : Bet} {c : List AV} {v : List Value},VRels w S β' c v → VRels (w.setRow g (ps ++ (xs ++ (vs ++ (ys.take (i * s.width + off) ++ us ++ ys.drop (i * s.width + off + us.length))))).toArray) (With S og ids) β' c v:=fun h=>(h.keepS (S':=With S og ids) fun b=>With.left).mono (fun _ h=>h) hwk (fun _ _ h=>h)
  have hset:=(set_rels (off:=off) hpost (vy.keepS (S':=With S og ids) fun b=>With.left) hus hi' (by omega) (by rw [hgd];exact hnew)).mono (fun _ h=>h) hwk (fun _ _ h=>h) (β':=nob)
  rw [hgd,List.set_append_left _ _ hi] at hset
  refine ⟨hpos,hcl,g,ps,sp,xs,vs,_,hpre,fun y hy=>?_,hog,by rw [List.length_set];exact hbt,fun u hu=>?_,mv vx,mv vu,hset,hBg,hlies,by rw [List.length_set];exact hm,fun _=>hnS,(fun h=>by cases h)⟩
  ·rw [← List.set_append_left _ _ hi] at hy
   rcases List.mem_or_eq_of_mem_set hy with h | h
   ·exact hpost y h
   ·rw [h];exact hnew
  ·rcases List.mem_append.1 hu with hu | hu
   ·exact h1 u (List.mem_append_left _ hu)
   ·rcases List.mem_append.1 hu with hu | hu
    ·exact h1 u (by simp [hu])
    ·exact splice_one (fun u hu=>h1 u (by simp [hu])) hu1 u hu
end ops
end Go.Ev


namespace Go.Ev
open Go.RowKit
section ops
variable {R : Option Nat} {ρ : Type} {P : Program} {w0 w : World} {S0 S : Nat → Prop} {B : Ctx} {β : Bet} {og : Nat → Option Nat} {st : St} {a : Act} {o : Oper} {site : Nat} {y : Eff → Option ρ} {r : ρ}
 {K : Act → World → Prop} {Q : Exit → Act → World → Prop}
theorem foldl_set (off : Nat) : ∀ (us : List Value) (k : Nat) (arr : Array Value),off + k + us.length ≤ arr.size →
  (us.zipIdx k).foldl (fun cs p=>cs.setIfInBounds (off + p.2) p.1) arr = (arr.toList.take (off + k) ++ us ++ arr.toList.drop (off + k + us.length)).toArray
 | [],k,arr,_=>by
  apply Array.ext'
  simp
 | u :: us,k,arr,h=>by
  simp only [List.length_cons] at h
  simp only [List.zipIdx_cons,List.foldl_cons]
  rw [foldl_set off us (k + 1) (arr.setIfInBounds (off + k) u) (by simp;omega)]
  congr 1
  simp only [Array.toList_setIfInBounds]
  have hl : off + k < arr.toList.length:=by simp;omega
  rw [show off + (k + 1) = off + k + 1 from by omega,List.take_add_one,List.getElem?_set_self hl,List.take_set_of_le (by omega),List.drop_set_of_lt (by omega)]
  simp only [Option.toList_some,List.append_assoc,List.length_cons,List.cons_append,List.nil_append]
  congr 3
  congr 1
  omega
theorem fill_sound {place place' : Nat → Option (Nat × Nat)} (hpl : ∀ i p,place i = some p → place' i = some p) :
  ∀ (parts : List (Nat × AV)) (parts' : List (Nat × Value)) (cs cs' : List AV) (vs : List Value),fillA place cs parts = some cs' → parts.map (·.1) = parts'.map (·.1) → VRels w S β (parts.map (·.2)) (parts'.map (·.2)) →
   (∀ id x,β id = some x → x.1.oneCell' = true) → VRels w S β cs vs → (∀ u ∈ vs,u.oneCell' = true) → ∃ vs',Instr.fill place' vs.toArray parts' = some vs'.toArray ∧ VRels w S β cs' vs' ∧ ∀ u ∈ vs',u.oneCell' = true
 | [],[],cs,cs',vs,h,_,_,_,hv,h1=>by simp [fillA] at h;subst h;exact ⟨vs,rfl,hv,h1⟩
 | [],_ :: _,_,_,_,_,hm,_,_,_,_=>by simp at hm
 | _ :: _,[],_,_,_,_,hm,_,_,_,_=>by simp at hm
 | (i,v) :: parts,(i',u) :: parts',cs,cs',vs,h,hm,hp,hone,hv,h1=>by
  simp only [List.map_cons,List.cons.injEq] at hm
  obtain ⟨hii,hm'⟩:=hm
  subst hii
  simp only [List.map_cons] at hp
  obtain ⟨u',us',he,hvu,hps⟩:=hp.inv
  simp only [List.cons.injEq] at he
  obtain ⟨rfl,rfl⟩:=he
  simp only [fillA] at h
  cases hpi : place i with
  | none=>simp [hpi] at h
  | some p =>
   simp only [hpi] at h
   split at h
   ·rename_i hc
    simp only [Bool.and_eq_true,beq_iff_eq] at hc
    obtain ⟨hlaid,hlen,hle⟩:=hc
    have hle' : p.1 + v.cells.length ≤ cs.length:=Nat.le_of_ble_eq_true hle
    obtain ⟨us,huc,hus,hu1⟩:=hvu.laid hlaid hone
    have hul : us.length = p.2:=by rw [hus.1];exact hlen
    have hsp:=hv.splice hus p.1
    have h1' : ∀ x ∈ vs.take p.1 ++ us ++ vs.drop (p.1 + us.length),x.oneCell' = true:=by
     intro x hx
     simp only [List.mem_append] at hx
     rcases hx with (hx | hx) | hx
     ·exact h1 x (List.mem_of_mem_take hx)
     ·exact hu1 x hx
     ·exact h1 x (List.mem_of_mem_drop hx)
    obtain ⟨vs',hf,hv',h1''⟩:=fill_sound hpl parts parts' _ cs' _ h hm' hps hone hsp h1'
    refine ⟨vs',?_,hv',h1''⟩
    have hfold:=foldl_set p.1 us 0 vs.toArray (by simp;rw [hv.1,hus.1];exact hle')
    simp only [Nat.add_zero] at hfold
    obtain ⟨p1,p2⟩:=p
    simp only [Instr.fill,hpl i _ hpi,huc]
    have hsz : us.toArray.size = p2:=by simpa using hul
    have hgt : ¬ (p1 + us.toArray.size > vs.toArray.size):=by simp;rw [hv.1,hus.1];exact hle'
    simp only [hsz,ne_eq,not_true_eq_false,decide_false,Bool.false_or,decide_eq_true_eq]
    rw [hsz] at hgt
    rw [if_neg hgt]
    have hz : us.toArray.zipIdx.foldl (fun cs x=>match x with | (c,j)=>cs.setIfInBounds (p1 + j) c) vs.toArray = (vs.take p1 ++ us ++ vs.drop (p1 + us.length)).toArray:=by
     rw [← hfold,← Array.foldl_toList,Array.toList_zipIdx]
    rw [hz]
    exact hf
   ·cases h
theorem places_some (fs : List Field) (h : fs.all (fun f=>(P.info? f.type).isSome) = true) : fs.mapM (fun f=>(P.info? f.type).map fun i=>(f.offset,i.size)) = some (fs.map fun f=>(f.offset,P.cellsOf f.type)):=by
 induction fs with
 | nil=>rfl
 | cons f fs ih =>
  simp only [List.all_cons,Bool.and_eq_true] at h
  obtain ⟨i,hi⟩:=Option.isSome_iff_exists.1 h.1
  simp [List.mapM_cons,hi,ih h.2,Program.cellsOf]
theorem op_build (hR : Rel w S B β og st a) (hO : Out w0 S0 B w S) {t : TypeId} {parts : Array (Nat × Operand)} {cs cs' : List AV} (ho : o.op = .build t parts) (hz : zeroAV P t = some cs) (hk : partsKnown P t = true)
  (hf : fillA (placeOf P t) cs (parts.toList.map fun p=>(p.1,valT P st.tm (partTypes P t p.1) p.2)) = some cs') (hy : y { v:=.agg cs' } = some r) (hK : Good w0 S0 B site o st y r K) : o.wpR R P a w K Q:=by
 obtain ⟨i,v,hi,hv,hl,rfl⟩:=zeroAV_spec hz
 obtain ⟨us,hc,hvs,h1⟩:=(ofVal_rel (w:=w) (S:=S) (β:=β) (shOf P depth t) v).laid hl hR.one
 have hparts : VRels w S β ((parts.toList.map fun p=>(p.1,valT P st.tm (partTypes P t p.1) p.2)).map (·.2)) ((parts.toList.map fun p=>(p.1,a.eval p.2)).map (·.2)):=by
  refine ⟨by simp,fun j c u hc hu=>?_⟩
  simp only [List.map_map,List.getElem?_map] at hc hu
  cases hj : parts.toList[j]? with
  | none=>simp [hj] at hc
  | some p=>simp [hj] at hc hu;subst hc;subst hu;exact valT_rel hR.tm P _ _
 have hmap : (parts.map fun p=>(p.1,a.eval p.2)) = (parts.toList.map fun p=>(p.1,a.eval p.2)).toArray:=by apply Array.ext';simp
 unfold partsKnown at hk
 split at hk
 ·rename_i fs hfs
  obtain ⟨vs',hfill,hvr,h1'⟩:=fill_sound (place:=placeOf P t) (place':=fun x=>Option.map (fun f=>(f.offset,P.cellsOf f.type)) fs[x]?) (fun i p hp=>by
   simp only [placeOf,hfs] at hp
   exact hp) _ _ _ cs' us hf (by simp) hparts hR.one hvs h1
  refine op_slot hR hO (.agg _ _ _ hvr.1 h1' hvr.2) hy hK ?_
  have hpl:=run_places (P:=P) w fs.toList _ (places_some fs.toList hk)
  simp only [execOp,ho,Instr.build,zeroValue,typeInfo,Sem.run_bind,run_program,Result.andThen_ok,hi,Sem.run_pure,hv,run_underlying hfs]
  simp only [Array.mapM_eq_mapM_toList,bind_pure_comp,hmap]
  simp [hpl,hc,hfill]
 ·rename_i n e hfs
  obtain ⟨ie,hie⟩:=Option.isSome_iff_exists.1 hk
  obtain ⟨vs',hfill,hvr,h1'⟩:=fill_sound (place:=placeOf P t) (place':=fun i=>some (i * ie.size,ie.size)) (fun i p hp=>by
   simp only [placeOf,hfs,Program.cellsOf,hie,Option.map_some,Option.getD_some] at hp
   exact hp) _ _ _ cs' us hf (by simp) hparts hR.one hvs h1
  refine op_slot hR hO (.agg _ _ _ hvr.1 h1' hvr.2) hy hK ?_
  simp only [execOp,ho,Instr.build,zeroValue,typeInfo,Sem.run_bind,run_program,Result.andThen_ok,hi,Sem.run_pure,hv,run_underlying hfs,sizeOf,hie,hmap]
  simp [hc,hfill]
 ·cases hk
theorem nz_rel {w : World} {S : Nat → Prop} {β : Bet} {v : AV} {u : Value} (h : VRel w S β v u) : VRel w S β v.nz u:=by
 have hL : ∀ (cs : List AV) (j : Nat) (c : AV),(AV.nzs cs)[j]? = some c → ∃ c',cs[j]? = some c' ∧ c = c'.nz:=by
  intro cs
  induction cs with
  | nil=>intro j c hc;simp [AV.nzs] at hc
  | cons x cs ih =>
   intro j c hc
   cases j with
   | zero=>simp [AV.nzs] at hc;exact ⟨x,rfl,hc.symm⟩
   | succ j=>simp only [AV.nzs,List.getElem?_cons_succ] at hc;obtain ⟨c',h1,h2⟩:=ih j c hc;exact ⟨c',by simpa using h1,h2⟩
 have hlen : ∀ cs : List AV,(AV.nzs cs).length = cs.length:=by
  intro cs
  induction cs with
  | nil=>rfl
  | cons x cs ih=>simp [AV.nzs,ih]
 induction h with
 | agg β cs vs hl h1 _ ih =>
  refine .agg _ _ vs (by rw [hlen];exact hl) h1 fun j c u hc hu=>?_
  obtain ⟨c',hc',rfl⟩:=hL cs j c hc
  exact ih j c' u hc' hu
 | tup β cs vs hl _ ih =>
  refine .tup _ _ vs (by rw [hlen];exact hl) fun j c u hc hu=>?_
  obtain ⟨c',hc',rfl⟩:=hL cs j c hc
  exact ih j c' u hc' hu
 | slz β s A=>exact .slv _ s [] A 0 default [] (by simp) (by simp) (by decide) (fun h=>absurd rfl h) (by simp [flat]) (by simp) (by simp) (by simp [flat])
 | unk β v=>exact .unk _ v
 | undef=>exact .undef _
 | int β k n=>exact .int _ k n
 | bool β b=>exact .bool _ b
 | ubool β b=>exact .ubool _ b
 | nl β v h=>exact .nl _ v h
 | str β s=>exact .str _ s
 | slv β s es A c a xs hs hc hm hA hl h1 hx hh _=>exact .slv _ s es A c a xs hs hc hm hA hl h1 hx hh
 | eref β s es i off a xs hi hs hSa hl h1 hx hh _=>exact .eref _ s es i off a xs hi hs hSa hl h1 hx hh
 | ref β cs a xs hSa hl h1 hx hh _=>exact .ref _ cs a xs hSa hl h1 hx hh
 | ifr β t cs v hh _=>exact .ifr _ t cs v hh
 | nsl=>exact .nsl _
 | mpv β es vs hl hh _=>exact .mpv _ es vs hl hh
 | ptr β id off g wd hbt=>exact .ptr _ id off g wd hbt
 | eptr β id i off g n c wd o hbt=>exact .eptr _ id i off g n c wd o hbt
 | own β id v wd hbt=>exact .own _ id v wd hbt
 | sub β id lo len A n c wd hbt=>exact .sub _ id lo len A n c wd hbt
 | fn β f cs vs hl hh _=>exact .fn _ f cs vs hl hh
theorem nzs_rel {w : World} {S : Nat → Prop} {β : Bet} : ∀ {cs : List AV} {vs : List Value},VRels w S β cs vs → VRels w S β (AV.nzs cs) vs
 | [],vs,h=>by rw [h.inv_nil];exact VRels.nil
 | c :: cs,vs,h=>by
  obtain ⟨u,us,rfl,hu,hs⟩:=h.inv
  exact VRels.cons (nz_rel hu) (nzs_rel hs)
def Goes (P : Program) (f : FuncId) (args : Array Value) (w : World) (R : Ending → World → Prop) : Prop :=
 (hasBody P f = true ∧ Calls P f args w R) ∨ (hasBody P f = false ∧ ∃ u w',(callFunc f args).run P w = .ok (.value u) w' ∧ R (.returned u) w')
theorem Goes.calls {P : Program} {f : FuncId} {args : Array Value} {w : World} {R : Ending → World → Prop} (h : Goes P f args w R) (hb : hasBody P f = true) : Calls P f args w R:=by
 rcases h with h | h
 ·exact h.2
 ·rw [hb] at h;cases h.1
theorem Goes.of {P : Program} {f : FuncId} {fn : Func} {c : Code} {args : Array Value} {w : World} {R : Ending → World → Prop} (hfn : P.funcs[f]? = some fn) (hb : fn.body = some c) (h : Calls P f args w R) : Goes P f args w R :=
 .inl ⟨by simp [hasBody,hfn,hb],h⟩
theorem CallsIn.at {R0 : Option Nat} {n : Nat} {P : Program} {f : FuncId} {args : Array Value} {w : World} {R : Ending → World → Prop} (h : CallsIn Fence.wide n P f args w R) : CallsIn (fen R0) n P f args w R:=h
theorem Goes.wp {R0 : Option Nat} {P : Program} {a : Act} {o : Oper} {w : World} {K : Act → World → Prop} {Q : Exit → Act → World → Prop} {f : FuncId} {args : Array Value} {R : Ending → World → Prop} (hen : entersB P f = true) (h : Goes P f args w R)
  (he : ∀ s,(callFunc f args).run P w = s → (execOp a.eval o).run P w = s) (hR : ∀ e w',R e w' → ∃ u,e = .returned u ∧ K (a.put o.dst u) w') : o.wpR R0 P a w K Q:=by
 refine ⟨fun _ _=>trivial,?_⟩
 rcases h with ⟨hb,h⟩ | ⟨hb,u,w',hrun,hq⟩
 ·unfold hasBody at hb
  unfold entersB at hen
  cases hfn : P.funcs[f]? with
  | none=>rw [hfn] at hb;cases hb
  | some fn =>
   simp only [hfn,Bool.not_eq_true'] at hen hb
   have hnone : fn.body.isNone = false:=by cases hbb : fn.body <;> simp_all
   rw [semAt_of (he (.ok (.enter f args) w) (by
    simp only [callFunc,Sem.run_bind,run_program,Result.andThen_ok,hfn]
    simp [hen,hnone])) (fun _ _ h=>by cases h) (fun _ _ h=>by cases h),Oper.uponIn_enter]
   refine ⟨fun h=>(by cases h),CallsIn.mono (CallsIn.at (callsIn_wide.2 h)) fun e w' hq=>?_⟩
   obtain ⟨u,rfl,hk⟩:=hR e w' hq
   exact hk
 ·rw [semAt_of (he _ hrun) (fun _ _ h=>by cases h) (fun _ _ h=>by cases h),Oper.uponIn_value]
  obtain ⟨u',hu,hk⟩:=hR _ _ hq
  cases hu
  exact hk
def SumOK (P : Program) (f : FuncId) (F : Summ) : Prop :=
 ∀ (ρ : Type) (w : World) (S : Nat → Prop) (avs : List AV) (args : List Value) (k : AV → Option ρ) (r : ρ),(∀ b,S b → b < w.heap.size) ∧ Glb (fun b=>b < w.heap.size) w → VRels w S nob avs args → F ρ avs k = some r →
  Goes P f args.toArray w fun e w'=>∃ u v S',e = .returned u ∧ k v = some r ∧ Below w.heap.size w w' ∧ (∀ b,S' b → S b ∨ w.heap.size ≤ b) ∧ (∀ b,S' b → b < w'.heap.size) ∧ VRel w' S' nob v u
def SNat (F : Summ) : Prop:=∀ (ρ : Type) (avs : List AV) (k : AV → Option ρ),F ρ avs k = (F AV avs some).bind k
theorem flat_free {w w' : World} {S S' : Nat → Prop} {β β' : Bet} {v : AV} {u : Value} (h : VRel w S β v u) : v.flat = true → VRel w' S' β' v u:=by
 induction h with
 | unk=>intro h;simp [AV.flat] at h
 | undef=>intro _;exact .undef _
 | int _ k n=>intro _;exact .int _ k n
 | bool _ b=>intro _;exact .bool _ b
 | ubool=>intro h;simp [AV.flat] at h
 | nl _ v h=>intro _;exact .nl _ v h
 | str _ s=>intro _;exact .str _ s
 | agg _ cs vs hl h1 _ ih =>
  intro h
  have hf : ∀ (l : List AV),AV.flats l = true → ∀ c ∈ l,c.flat = true:=by
   intro l
   induction l with
   | nil=>simp
   | cons c l ih=>intro h c' hc';simp [AV.flats] at h;rcases List.mem_cons.1 hc' with rfl | h';exact h.1;exact ih h.2 c' h'
  have hfl : AV.flats cs = true:=h
  exact .agg _ cs vs hl h1 fun j c u hc hu=>ih j c u hc hu (hf cs hfl c (List.mem_of_getElem? hc))
 | tup _ cs vs hl _ ih =>
  intro h
  have hf : ∀ (l : List AV),AV.flats l = true → ∀ c ∈ l,c.flat = true:=by
   intro l
   induction l with
   | nil=>simp
   | cons c l ih=>intro h c' hc';simp [AV.flats] at h;rcases List.mem_cons.1 hc' with rfl | h';exact h.1;exact ih h.2 c' h'
  have hfl : AV.flats cs = true:=h
  exact .tup _ cs vs hl fun j c u hc hu=>ih j c u hc hu (hf cs hfl c (List.mem_of_getElem? hc))
 | slv=>intro h;simp [AV.flat] at h
 | slz=>intro h;simp [AV.flat] at h
 | eref=>intro h;simp [AV.flat] at h
 | ref=>intro h;simp [AV.flat] at h
 | ifr=>intro h;simp [AV.flat] at h
 | mpv=>intro h;simp [AV.flat] at h
 | nsl=>intro h;simp [AV.flat] at h
 | ptr=>intro h;simp [AV.flat] at h
 | eptr=>intro h;simp [AV.flat] at h
 | own=>intro h;simp [AV.flat] at h
 | sub=>intro h;simp [AV.flat] at h
 | fn=>intro h;simp [AV.flat] at h
theorem op_call (hR : Rel w S B β og st a) (hO : Out w0 S0 B w S) {rowsV : List (Nat × Row)} (hsub : ∀ id x,lookup rowsV id = some x → lookup st.rows id = some x) {f : Operand} {args : Array Operand} {ts : Array TypeId} {g : Nat} {caps pargs : List AV} {ids : List Nat} {F : Summ}
  (ho : o.op = .call { callee:=.value f,args:=args,argTypes:=ts }) (hf : val st.tm f = .fn g caps) (hp : purL (pur1 rowsV depth) (valsT P st.tm ts.toList args.toList ++ caps) = some (pargs,ids)) (hF : SumOK P g F) (hen : entersB P g = true)
  (hy : F ρ (AV.nzs pargs) (fun v=>y { v,imm:=if v.flat then [] else ids }) = some r) (hK : Good w0 S0 B site o st y r K) : o.wpR R P a w K Q:=by
 have hrow : ∀ id x,lookup rowsV id = some x → RowRel w S B β id (og id) x:=fun id x hx=>hR.row id x (hsub _ _ hx)
 have hfv:=val_rel hR.tm f
 rw [hf] at hfv
 generalize hfe : a.eval f = fv at hfv
 cases hfv with
 | fn _ _ _ cvs hcl hch =>
  have hargs:=(valsT_rel hR.tm P ts.toList args.toList).append (VRels.mono (w':=w) (S':=S) (β':=β) ⟨hcl,hch⟩ (fun _ h=>h) (fun _ _=>rfl) (fun _ _ h=>h))
  have hpa:=purL_sound (w:=w) (S:=S) (β:=β) (og:=og) (f:=pur1 rowsV depth) (pur1_sound hrow depth) _ _ _ hp hargs
  have hin : ∀ id ∈ ids,∃ r,lookup st.rows id = some r:=fun id hid=>by obtain ⟨r,hr⟩:=purL_in (rows:=rowsV) (pur1_in depth) _ _ hp id hid;exact ⟨r,hsub _ _ hr⟩
  have hFr:=hR.freeze ids
  have hOF:=hO.freeze hR ids hin
  have hC:=hF ρ w (With S og ids) (AV.nzs pargs) _ _ r ⟨hFr.Slt,hO.bel.here.mono hR.Ble⟩ (nzs_rel hpa) hy
  have hmap : (args.map a.eval) ++ cvs.toArray = (args.toList.map a.eval ++ cvs).toArray:=by apply Array.ext';simp
  have hrun : ∀ s,(callFunc g (args.toList.map a.eval ++ cvs).toArray).run P w = s → (execOp a.eval o).run P w = s:=fun s hcf=>by
   simp only [execOp,ho,resolve,hfe,Deferred.ofValue]
   simp only [pure_bind,invoke,Array.empty_append,hmap]
   exact hcf
  refine hC.wp hen hrun fun e w' hpost=>?_
  obtain ⟨v,av,S',rfl,hy,hbel,hS',hlt,hv⟩:=hpost
  refine ⟨v,rfl,?_⟩
  ·by_cases hflat : av.flat = true
   ·have hG:=hR.grow hbel (S':=S) (fun _ h=>h) (fun _ _ h=>h) (fun b hs=>Nat.lt_of_lt_of_le (hR.Slt b hs) hbel.size)
    simp only [hflat,if_true] at hy
    exact hK _ _ _ hy ⟨S,β,og,hG.put o.dst (flat_free hv hflat),hO.grow hR.Ble hbel⟩
   ·simp only [hflat] at hy
    have hG:=hFr.grow hbel (S':=fun b=>With S og ids b ∨ S' b) (fun _ h=>.inl h) (fun b hb h=>h.elim id fun h=>(hS' b h).elim id fun h=>absurd hb (by omega)) (fun b hs=>hs.elim (fun h=>Nat.lt_of_lt_of_le (hFr.Slt b h) hbel.size) (hlt b))
    have hG2:=hG.put o.dst (v:=av) (u:=v) (hv.mono (fun _ h=>.inr h) (fun _ _=>rfl) (fun _ _ h=>by cases h))
    have happ : apply site o.dst { v:=av,imm:=ids } st = ⟨putTm st.tm o.dst av,setImm ids st.rows,st.used⟩:=by
     simp only [apply,applyRows,List.foldl_nil,List.map_nil,List.nil_append]
     cases ids with
     | nil=>rw [setImm_nil]
     | cons i is=>rfl
    refine hK _ _ _ hy ⟨_,β,og,by rw [show (if false = true then ([] : List Nat) else ids) = ids from rfl,happ];exact hG2,?_⟩
    have hOG:=hOF.grow hR.Ble hbel
    exact ⟨hOG.bel,fun b hb=>hb.elim (hOG.sin b) fun h=>(hS' b h).elim (hOG.sin b) fun h=>.inr (fun hB=>Nat.lt_irrefl _ (Nat.lt_of_lt_of_le (hR.Ble b hB) h)),fun b hb=>.inl (hOG.sub b hb)⟩
end ops
end Go.Ev


namespace Go.Ev
open Go.RowKit
section ops
variable {R : Option Nat} {ρ : Type} {P : Program} {w0 w : World} {S0 S : Nat → Prop} {B : Ctx} {β : Bet} {og : Nat → Option Nat} {st : St} {a : Act} {o : Oper} {site : Nat} {y : Eff → Option ρ} {r : ρ}
 {K : Act → World → Prop} {Q : Exit → Act → World → Prop}
theorem flat_set_w {n : Nat} : ∀ (es : List AV) (i : Nat) (x : AV),(∀ e ∈ es,e.cells.length = n) → x.cells.length = n → i < es.length → flat (es.set i x) = (flat es).take (i * n) ++ x.cells ++ (flat es).drop (i * n + n)
 | [],i,x,_,_,h=>by simp at h
 | e :: es,0,x,hs,hx,_=>by
  have hw:=hs e (by simp)
  simp only [List.set_cons_zero,flat,List.flatMap_cons,Nat.zero_mul,List.take_zero,List.nil_append,Nat.zero_add,← hw]
  simp
 | e :: es,i + 1,x,hs,hx,h=>by
  have hw:=hs e (by simp)
  have ih:=flat_set_w es i x (fun y hy=>hs y (by simp [hy])) hx (by simpa using h)
  simp only [List.set_cons_succ]
  simp only [flat,List.flatMap_cons] at ih ⊢
  have e1 : (i + 1) * n = e.cells.length + i * n:=by rw [hw,Nat.add_mul,Nat.one_mul,Nat.add_comm]
  have e2 : e.cells.length + i * n + n = e.cells.length + (i * n + n):=by omega
  rw [ih,e1,e2,List.take_length_add_append,List.drop_length_add_append]
  simp
theorem flat_length_w {n : Nat} : ∀ (es : List AV),(∀ e ∈ es,e.cells.length = n) → (flat es).length = es.length * n
 | [],_=>by simp [flat]
 | e :: es,h=>by
  have h1:=h e (by simp)
  have h2:=flat_length_w (n:=n) es (fun x hx=>h x (by simp [hx]))
  simp only [flat,List.flatMap_cons,List.length_append,List.length_cons] at h2 ⊢
  rw [h1,h2,Nat.add_mul,Nat.one_mul,Nat.add_comm]
theorem hasSh_laid {s : Sh} {v : AV} (h : hasSh s v = true) : v.laidB = true:=by
 cases s <;> cases v <;> simp [hasSh,has1] at h <;> rfl
theorem fillE_sound {s : Sh} : ∀ (parts : List (Nat × AV)) (parts' : List (Nat × Value)) (es es' : List AV) (vs : List Value),fillE s es parts = some es' → parts.map (·.1) = parts'.map (·.1) → VRels w S nob (parts.map (·.2)) (parts'.map (·.2)) →
   (∀ e ∈ es,e.cells.length = s.width) → VRels w S nob (flat es) vs → (∀ u ∈ vs,u.oneCell' = true) →
   ∃ vs',Instr.fill (fun i=>some (i * s.width,s.width)) vs.toArray parts' = some vs'.toArray ∧ VRels w S nob (flat es') vs' ∧ (∀ u ∈ vs',u.oneCell' = true) ∧ es'.length = es.length
 | [],[],es,es',vs,h,_,_,_,hv,h1=>by simp [fillE] at h;subst h;exact ⟨vs,rfl,hv,h1,rfl⟩
 | [],_ :: _,_,_,_,_,hm,_,_,_,_=>by simp at hm
 | _ :: _,[],_,_,_,_,hm,_,_,_,_=>by simp at hm
 | (i,v) :: parts,(i',u) :: parts',es,es',vs,h,hm,hp,hw,hv,h1=>by
  simp only [List.map_cons,List.cons.injEq] at hm
  obtain ⟨hii,hm'⟩:=hm
  subst hii
  simp only [List.map_cons] at hp
  obtain ⟨u',us',he,hvu,hps⟩:=hp.inv
  simp only [List.cons.injEq] at he
  obtain ⟨rfl,rfl⟩:=he
  simp only [fillE] at h
  split at h
  ·rename_i hc
   simp only [Bool.and_eq_true] at hc
   obtain ⟨hsh,hlt⟩:=hc
   have hi : i < es.length:=by simpa [Nat.blt_eq] using hlt
   have hvw:=hasSh_width s v hsh
   obtain ⟨us,huc,hus,hu1⟩:=hvu.laid (hasSh_laid hsh) (fun _ _ h=>by cases h)
   have hul : us.length = s.width:=by rw [hus.1];exact hvw
   have hfl:=flat_length_w es hw
   have hb : i * s.width + s.width ≤ es.length * s.width:=by
    have : (i + 1) * s.width ≤ es.length * s.width:=Nat.mul_le_mul_right _ hi
    rwa [Nat.add_mul,Nat.one_mul] at this
   have hvl : vs.length = es.length * s.width:=by rw [hv.1,hfl]
   have hset : VRels w S nob (flat (es.set i v)) (vs.take (i * s.width) ++ us ++ vs.drop (i * s.width + us.length)):=by
    rw [flat_set_w es i v hw hvw hi,hul]
    exact ((hv.take _).append hus).append (hv.drop _)
   have h1' : ∀ x ∈ vs.take (i * s.width) ++ us ++ vs.drop (i * s.width + us.length),x.oneCell' = true:=by
    intro x hx
    simp only [List.mem_append] at hx
    rcases hx with (hx | hx) | hx
    ·exact h1 x (List.mem_of_mem_take hx)
    ·exact hu1 x hx
    ·exact h1 x (List.mem_of_mem_drop hx)
   obtain ⟨vs',hf,hv',h1'',hl'⟩:=fillE_sound parts parts' _ es' _ h hm' hps (fun e he=>by
    rcases List.mem_or_eq_of_mem_set he with h | h
    ·exact hw e h
    ·rw [h];exact hvw) hset h1'
   refine ⟨vs',?_,hv',h1'',by rw [hl',List.length_set]⟩
   have hfold:=foldl_set (i * s.width) us 0 vs.toArray (by simp;omega)
   simp only [Nat.add_zero] at hfold
   simp only [Instr.fill,huc]
   have hsz : us.toArray.size = s.width:=by simpa using hul
   have hgt : ¬ (i * s.width + us.toArray.size > vs.toArray.size):=by simp;omega
   simp only [hsz,ne_eq,not_true_eq_false,decide_false,Bool.false_or,decide_eq_true_eq]
   rw [hsz] at hgt
   rw [if_neg hgt]
   have hz : us.toArray.zipIdx.foldl (fun cs x=>match x with | (c,j)=>cs.setIfInBounds (i * s.width + j) c) vs.toArray = (vs.take (i * s.width) ++ us ++ vs.drop (i * s.width + us.length)).toArray:=by
    rw [← hfold,← Array.foldl_toList,Array.toList_zipIdx]
   rw [hz]
   exact hf
  ·cases h
theorem op_buildSlice (hR : Rel w S B β og st a) (hO : Out w0 S0 B w S) {rowsV : List (Nat × Row)} (hsub : ∀ id x,lookup rowsV id = some x → lookup st.rows id = some x) (hf : Fresh site st.used) {t e : TypeId} {len : Nat} {parts : Array (Nat × Operand)} {z qs es : List AV} {ids : List Nat} (ho : o.op = .buildSlice t len parts) (ht : P.underlying t = some (.slice e))
  (hel : elemOK P e = true) (hlen : len ≤ 1000) (hce : P.cellsOf e ≤ 1000) (hpos : len ≠ 0) (hz : zeroAV P e = some z) (hq : purL (pur1 rowsV depth) (parts.toList.map fun p=>valT P st.tm e p.2) = some (qs,ids))
  (hfill : fillE (shOf P depth e) (List.replicate len (mkAV (shOf P depth e) z)) ((parts.toList.map fun p=>p.1).zip qs) = some es) (hall : es.all (hasSh (shOf P depth e)) = true)
  (hy : y { v:=.own site,new:=some (.arr false (shOf P depth e) e es none),imm:=ids } = some r) (hK : Good w0 S0 B site o st y r K) : o.wpR R P a w K Q:=by
 obtain ⟨i,zv,hi,hzv,hiw,hipos,hzs,hby,_⟩:=elemOK_spec hel
 obtain ⟨i',v,hi',hv,hl,rfl⟩:=zeroAV_spec hz
 rw [hi] at hi'
 cases hi'
 rw [hzv] at hv
 cases hv
 have hsz : P.cellsOf e = i.size:=by simp [Program.cellsOf,hi]
 have hrow : ∀ id x,lookup rowsV id = some x → RowRel w S B β id (og id) x:=fun id x hx=>hR.row id x (hsub _ _ hx)
 have hpv : VRels w S β (parts.toList.map fun p=>valT P st.tm e p.2) (parts.toList.map fun p=>a.eval p.2):=by
  refine ⟨by simp,fun j c u hc hu=>?_⟩
  simp only [List.getElem?_map] at hc hu
  cases hj : parts.toList[j]? with
  | none=>simp [hj] at hc
  | some p=>simp [hj] at hc hu;subst hc;subst hu;exact valT_rel hR.tm P _ _
 have hpq:=purL_sound (w:=w) (S:=S) (β:=β) (og:=og) (f:=pur1 rowsV depth) (pur1_sound hrow depth) _ _ _ hq hpv
 have hin : ∀ id ∈ ids,∃ r,lookup st.rows id = some r:=fun id hid=>by obtain ⟨r,hr⟩:=purL_in (rows:=rowsV) (pur1_in depth) _ _ hq id hid;exact ⟨r,hsub _ _ hr⟩
 have hFr:=hR.freeze ids
 have hOF:=hO.freeze hR ids hin
 obtain ⟨zs,hzc,hzvs,hz1⟩:=(ofVal_rel (w:=w) (S:=With S og ids) (β:=nob) (shOf P depth e) zv).laid hl (fun _ _ h=>by cases h)
 have hzl : zs.length = i.size:=by rw [← hzs,hzc];simp
 have hzl' : (ofVal (shOf P depth e) zv).cells.length = (shOf P depth e).width:=by rw [← hzvs.1,hzl,hiw]
 have hmk:=mkAV_zero hzl' (ofVal_cells _ _)
 have hflat0 : flat (List.replicate len (mkAV (shOf P depth e) (ofVal (shOf P depth e) zv).cells)) = (List.replicate len (ofVal (shOf P depth e) zv).cells).flatten:=by
  simp [flat,List.flatMap_replicate,hmk]
 have hv0 : VRels w (With S og ids) nob (flat (List.replicate len (mkAV (shOf P depth e) (ofVal (shOf P depth e) zv).cells))) (List.replicate len zs).flatten:=by rw [hflat0];exact hzvs.rep len
 have hql : qs.length = parts.toList.length:=by rw [← hpq.1];simp
 obtain ⟨vs',hfl,hvr,h1',hel'⟩:=fillE_sound (s:=shOf P depth e) _ (parts.toList.map fun p=>(p.1,a.eval p.2)) _ es (List.replicate len zs).flatten hfill
  (by rw [List.map_map,List.map_fst_zip (by simp [hql])];rfl)
  (by rw [List.map_map,List.map_snd_zip (by simp [hql])];exact hpq)
  (fun x hx=>by rw [(List.mem_replicate.1 hx).2,hmk];exact hzl') hv0 (fun u hu=>by
   obtain ⟨l,hl,hul⟩:=List.mem_flatten.1 hu
   rw [(List.mem_replicate.1 hl).2] at hul
   exact hz1 u hul)
 have hesl : es.length = len:=by rw [hel'];simp
 have hsh : ∀ x ∈ es,hasSh (shOf P depth e) x = true:=by simpa using hall
 have hvl : vs'.length = len * (shOf P depth e).width:=by rw [hvr.1,flat_length es hsh,hesl]
 have hb:=below_alloc w (.cells vs'.toArray e)
 have hlt : ∀ b,With S og ids b → b < (w.alloc (.cells vs'.toArray e)).heap.size:=fun b hs=>by have:=hFr.Slt b hs;simp;omega
 have hN:=hFr.new site hf o.dst hb (S':=With S og ids) (fun _ h=>h) (fun _ _ h=>h) hlt (x:=.slice (some ⟨w.heap.size,0,none⟩) len len) (wd:=(shOf P depth e).width) (o:=some w.heap.size) rfl (fun g hg=>by cases hg;simp)
  (r:=.arr false (shOf P depth e) e es none) (v:=.own site) (u:=.slice (some ⟨w.heap.size,0,none⟩) len len)
  ⟨by rw [← hiw];exact hipos,_,[],vs',by simpa using hsh,(fun c h=>by cases h),upd_same _ _ _,h1',by rw [List.append_nil];exact hvr.mono (fun _ h=>h) (fun b hs=>hb.block b (hFr.Slt b hs)) (fun _ _ h=>h),.inr ⟨w.heap.size,[],rfl,by rw [hesl];rfl,fun h=>Nat.lt_irrefl _ (hR.Ble _ h),Lies.plain (heap_alloc_new w _),by simp only [maxLen,List.length_nil];omega,fun _ hs=>absurd (hFr.Slt _ hs) (Nat.lt_irrefl _),(fun h=>by cases h)⟩⟩ (.own _ site _ _ (upd_same _ _ _))
 have happ : apply site o.dst { v:=AV.own site,new:=some (.arr false (shOf P depth e) e es none),imm:=ids } st = ⟨putTm st.tm o.dst (.own site),setRow (setImm ids st.rows) site (.arr false (shOf P depth e) e es none),site :: st.used⟩:=by
  simp only [apply,applyRows,List.foldl_nil,List.map_nil,List.nil_append]
  cases ids with
  | nil=>rw [setImm_nil]
  | cons i is=>rfl
 refine wp_value (u:=.slice (some ⟨w.heap.size,0,none⟩) len len) (w':=w.alloc (.cells vs'.toArray e)) ?_ (hK _ _ _ hy ⟨_,_,_,by rw [happ];exact hN,hOF.grow hFr.Ble hb⟩)
 have hmap : (parts.map fun p=>(p.1,a.eval p.2)) = (parts.toList.map fun p=>(p.1,a.eval p.2)).toArray:=by apply Array.ext';simp
 have hn24 : ¬ (len * i.size > 2 ^ 24):=by
  have : len * i.size ≤ 1000 * 1000:=Nat.mul_le_mul hlen (by rw [← hsz];exact hce)
  omega
 have hn0 : ¬ (len * i.size = 0):=by
  intro h
  rcases Nat.mul_eq_zero.1 h with h | h
  ·exact hpos h
  ·omega
 have hinit : (Array.range (len * i.size)).map (fun j=>zv.cells[j % zv.cells.size]!) = ((List.replicate len zs).flatten).toArray:=by
  apply Array.ext'
  have hr:=range_rep zs (default : Value) i.size hzl hipos len
  rw [← hr,hzc]
  have : zs.toArray.size = i.size:=by simpa using hzl
  simp only [Array.toList_map,Array.toList_range,this]
  apply List.map_congr_left
  intro j _
  simp [List.getD]
 rw [← hiw] at hfl
 simp only [execOp,ho,Instr.buildSlice,Sem.run_bind,run_underlying ht,Result.andThen_ok,sizeOf,typeInfo,run_program,hi,Sem.run_pure,hn24,if_false,hn0,zeroValue,hzv,hinit,hmap,hfl,newRow,run_newObj]
 rfl
theorem op_buildSlice0 (hR : Rel w S B β og st a) (hO : Out w0 S0 B w S) {t e : TypeId} {parts : Array (Nat × Operand)} {s : Sh} (ho : o.op = .buildSlice t 0 parts) (ht : P.underlying t = some (.slice e)) (hi : (P.info? e).isSome = true) (hp : parts.size = 0)
  (hy : y { v:=.slz s } = some r) (hK : Good w0 S0 B site o st y r K) : o.wpR R P a w K Q:=by
 obtain ⟨i,hi⟩:=Option.isSome_iff_exists.1 hi
 have hpe : parts = #[]:=Array.eq_empty_of_size_eq_zero hp
 subst hpe
 have hb:=below_alloc w (.cells #[] e)
 have hG:=hR.grow hb (S':=S) (fun _ h=>h) (fun _ _ h=>h) (fun b hs=>by have:=hR.Slt b hs;simp;omega)
 refine wp_value (u:=.slice (some ⟨w.heap.size,0,none⟩) 0 0) (w':=w.alloc (.cells #[] e)) ?_ (hK _ _ _ hy ⟨S,β,og,hG.put o.dst (.slz _ s _),hO.grow hR.Ble hb⟩)
 simp [execOp,ho,Instr.buildSlice,run_underlying ht,sizeOf,typeInfo,hi,Instr.fill,newRow]
 have hr0 : Array.range 0 = #[]:=rfl
 simp [hr0]
end ops
end Go.Ev


namespace Go.Ev
open Go.RowKit
section ops
variable {R : Option Nat} {ρ : Type} {P : Program} {w0 w : World} {S0 S : Nat → Prop} {B : Ctx} {β : Bet} {og : Nat → Option Nat} {st : St} {a : Act} {o : Oper} {site : Nat} {y : Eff → Option ρ} {r : ρ}
 {K : Act → World → Prop} {Q : Exit → Act → World → Prop}
theorem arr_val {B : Nat → Prop} {id : Nat} {o : Option Nat} {im : Bool} {s : Sh} {e : TypeId} {es : List AV} {csp : Option (List AV)} (h : RowRel w S B β id o (.arr im s e es csp)) :
  ∃ A c,β id = some (.slice A es.length c,s.width) ∧ es.length ≤ c ∧ (∀ l,csp = some l → c = es.length + l.length) ∧ (0 < c → ∃ g bo,A = some ⟨g,bo,none⟩ ∧ o = some g):=by
 obtain ⟨hp,v,sp,xs,hshS,hcs,hbt,h1,hvs,hor⟩:=h
 rcases hor with ⟨rfl,rfl,_,A,rfl⟩ | ⟨g,ps,ho,rfl,_⟩
 ·exact ⟨A,0,hbt,Nat.le_refl _,fun l hl=>by rw [hcs l hl];rfl,fun h=>absurd h (Nat.lt_irrefl _)⟩
 ·exact ⟨_,_,hbt,by omega,fun l hl=>by rw [hcs l hl],fun _=>⟨g,ps.length,rfl,ho⟩⟩
theorem own_val {id : Nat} {v u : Value} {wd : Nat} (hb : β id = some (v,wd)) (h : VRel w S β (.own id) u) : u = v:=by
 cases h with
 | own _ _ _ wd' hb'=>rw [hb] at hb';simp only [Option.some.injEq,Prod.mk.injEq] at hb';exact hb'.1.symm
theorem sub_val {id lo n len c wd : Nat} {A : Option Addr} {u : Value} (hb : β id = some (.slice A len c,wd)) (h : VRel w S β (.sub id lo n) u) : u = .slice (if c = lo then A else A.map (·.add (lo * wd))) n (c - lo):=by
 cases h with
 | sub _ _ _ _ A' n' c' wd' hb'=>rw [hb] at hb';simp only [Option.some.injEq,Prod.mk.injEq,Value.slice.injEq] at hb';obtain ⟨⟨rfl,rfl,rfl⟩,rfl⟩:=hb';rfl
theorem op_slice_sub (hR : Rel w S B β og st a) (hO : Out w0 S0 B w S) {t e e' : TypeId} {x : Operand} {lo hi : Option Operand} {id : Nat} {im : Bool} {s : Sh} {es : List AV} {csp : Option (List AV)} (ho : o.op = .slice t x lo hi none) (ht : P.underlying t = some (.slice e)) (hx : val st.tm x = .own id)
  (hl : lookup st.rows id = some (.arr im s e' es csp)) (hsz : sizeOK P e s = true) (hlo : optIsInt (lo.map (val st.tm)) = true) (hh : optIsInt (hi.map (val st.tm)) = true) (hb : slb (optInt (lo.map (val st.tm)) 0) (optInt (hi.map (val st.tm)) es.length) es.length = true)
  (hy : y { v:=.sub id (optInt (lo.map (val st.tm)) 0).toNat ((optInt (hi.map (val st.tm)) es.length).toNat - (optInt (lo.map (val st.tm)) 0).toNat) } = some r) (hK : Good w0 S0 B site o st y r K) : o.wpR R P a w K Q:=by
 have h:=val_rel hR.tm x
 rw [hx] at h
 obtain ⟨A,c,hbt,hc,_,_⟩:=arr_val (hR.row id _ hl)
 have he:=own_val hbt h
 obtain ⟨i,hi',hiw⟩:=sizeOK_spec hsz
 refine op_slot hR hO (.sub _ id _ _ A es.length c s.width hbt) hy hK ?_
 have hbd:=run_bounds (P:=P) (w:=w) hR.tm hlo hh true es.length c hc hb
 simp [execOp,ho,he,Instr.sliceAt,run_underlying ht,Instr.slice,hbd,sizeOf,typeInfo,hi',hiw]
theorem op_slice_ext (hR : Rel w S B β og st a) (hO : Out w0 S0 B w S) (hf : Fresh site st.used) {t e e' : TypeId} {x : Operand} {hi : Option Operand} {id : Nat} {s : Sh} {es l : List AV} (ho : o.op = .slice t x none hi none) (ht : P.underlying t = some (.slice e)) (hx : val st.tm x = .own id)
  (hl : lookup st.rows id = some (.arr false s e' es (some l))) (hsz : sizeOK P e s = true) (hh : optIsInt (hi.map (val st.tm)) = true) (h1 : (es.length : Int) ≤ optInt (hi.map (val st.tm)) es.length) (h2 : optInt (hi.map (val st.tm)) es.length ≤ (es.length : Int) + l.length)
  (hy : y { v:=.own site,new:=some (.arr false s e' (es ++ l.take ((optInt (hi.map (val st.tm)) es.length).toNat - es.length)) (some (l.drop ((optInt (hi.map (val st.tm)) es.length).toNat - es.length)))),del:=some id } = some r) (hK : Good w0 S0 B site o st y r K) : o.wpR R P a w K Q:=by
 have h:=val_rel hR.tm x
 rw [hx] at h
 obtain ⟨hp,v,sp,xs,hshS,hcs,hbt,h1c,hvs,hor⟩:=hR.row id _ hl
 have hlsp : l = sp:=hcs l rfl
 subst hlsp
 have he:=own_val hbt h
 obtain ⟨i,hi',hiw⟩:=sizeOK_spec hsz
 generalize hn : optInt (hi.map (val st.tm)) es.length = n at *
 have hsplit : (es ++ l.take (n.toNat - es.length)) ++ l.drop (n.toNat - es.length) = es ++ l:=by rw [List.append_assoc,List.take_append_drop]
 have hlen : (es ++ l.take (n.toNat - es.length)).length = n.toNat:=by simp;omega
 have hlen2 : (l.drop (n.toNat - es.length)).length = es.length + l.length - n.toNat:=by simp;omega
 have hrunB : ∀ (A : Option Addr),(Instr.sliceBounds true es.length (es.length + l.length) none (hi.map a.eval) none).run P w = .ok (0,n.toNat,es.length + l.length) w:=by
  intro A
  rcases optInt_some hR.tm hh es.length with ⟨rfl,e1⟩ | ⟨z,k,rfl,e1⟩
  ·rw [hn] at e1
   subst e1
   simp [Instr.sliceBounds]
  ·rw [hn] at e1
   have hb:=fun c=>run_sliceBound (P:=P) (w:=w) (k:=k) (n:=n) (m:=es.length + l.length) c (by omega) (by omega)
   simp [Instr.sliceBounds,e1,hb]
 rcases hor with ⟨he0,hsp0,hogn,A,rfl⟩ | ⟨g,ps,hog,rfl,hBg,hh',hmx,hi1,_⟩
 ·subst he0
  subst hsp0
  have hn0 : n = 0:=by simp at h1 h2;omega
  subst hn0
  refine wp_value (u:=.slice A 0 0) (w':=w) ?_ (hK _ _ _ hy ⟨S,_,_,hR.moved (id:=id) hf o.dst (World.grownBy.refl w _) (fun g hg=>by rw [hogn] at hg;cases hg) (x:=.slice A 0 0) (wd:=s.width) (o':=none) rfl (fun g hg=>by cases hg)
   ⟨hp,.slice A 0 0,[],[],by simp,(fun c h=>by simp at h;exact h),upd_same _ _ _,by simp,VRels.nil,.inl ⟨rfl,rfl,rfl,A,rfl⟩⟩ (.own _ site _ _ (upd_same _ _ _)),hO⟩)
  have:=hrunB A
  simp at this
  simp [execOp,ho,he,Instr.sliceAt,run_underlying ht,Instr.slice,this,sizeOf,typeInfo,hi',hiw]
 ·refine wp_value (u:=.slice (some ⟨g,ps.length,none⟩) n.toNat (es.length + l.length)) (w':=w) ?_ (hK _ _ _ hy ⟨S,_,_,hR.moved (id:=id) hf o.dst (World.grownBy.refl w _) (fun g' hg'=>by rw [hog] at hg';cases hg';exact hi1 rfl) (x:=.slice (some ⟨g,ps.length,none⟩) n.toNat (es.length + l.length)) (wd:=s.width) (o':=some g) rfl
   (fun x hx=>by cases hx;exact ⟨.inl hog,hR.lt id g hog⟩) ?_ (.own _ site _ _ (upd_same _ _ _)),hO⟩)
  ·have:=hrunB none
   have h0 : (⟨g,ps.length,none⟩ : Addr).add 0 = ⟨g,ps.length,none⟩:=by simp [Addr.add]
   simp [execOp,ho,he,Instr.sliceAt,run_underlying ht,Instr.slice,this,sizeOf,typeInfo,hi',hiw,h0]
  ·refine ⟨hp,_,l.drop (n.toNat - es.length),xs,by rw [hsplit];exact hshS,(fun c h=>by simp at h;exact h.symm),upd_same _ _ _,h1c,by rw [hsplit];exact hvs,.inr ⟨g,ps,rfl,?_,hBg,hh',?_,hi1,(fun h=>by cases h)⟩⟩
   ·rw [hlen,hlen2];congr 1;omega
   ·rw [hlen,hlen2];omega
theorem op_slice_suf (hR : Rel w S B β og st a) (hO : Out w0 S0 B w S) (hf : Fresh site st.used) {t e e' : TypeId} {x : Operand} {lo : Option Operand} {id : Nat} {s : Sh} {es : List AV} {csp : Option (List AV)} (ho : o.op = .slice t x lo none none) (ht : P.underlying t = some (.slice e)) (hx : val st.tm x = .own id)
  (hl : lookup st.rows id = some (.arr false s e' es csp)) (hsz : sizeOK P e s = true) (hlo : optIsInt (lo.map (val st.tm)) = true) (h0 : 0 ≤ optInt (lo.map (val st.tm)) 0) (h1 : optInt (lo.map (val st.tm)) 0 ≤ (es.length : Int))
  (hy : y { v:=.own site,new:=some (.arr false s e' (es.drop (optInt (lo.map (val st.tm)) 0).toNat) csp),del:=some id } = some r) (hK : Good w0 S0 B site o st y r K) : o.wpR R P a w K Q:=by
 have h:=val_rel hR.tm x
 rw [hx] at h
 obtain ⟨hp,v,sp,xs,hshS,hcs,hbt,h1c,hvs,hor⟩:=hR.row id _ hl
 have he:=own_val hbt h
 obtain ⟨i,hi',hiw⟩:=sizeOK_spec hsz
 have hb : slb (optInt (lo.map (val st.tm)) 0) (optInt ((none : Option Operand).map (val st.tm)) es.length) es.length = true:=by
  show slb _ (es.length : Int) _ = true
  simp only [slb,Bool.and_eq_true,decide_eq_true_eq]
  exact ⟨h0,h1,Int.le_refl _⟩
 generalize hlz : optInt (lo.map (val st.tm)) 0 = lz at *
 obtain ⟨l,rfl⟩ : ∃ l : Nat,lz = l:=⟨lz.toNat,by omega⟩
 have hl1 : l ≤ es.length:=by omega
 simp only [Int.toNat_natCast] at hy
 have hsh : ∀ x ∈ es,hasSh s x = true:=fun x hx=>hshS x (List.mem_append_left _ hx)
 have hdsh : ∀ x ∈ es.drop l ++ sp,hasSh s x = true:=fun x hx=>by
  rcases List.mem_append.1 hx with h | h
  ·exact hsh x (List.mem_of_mem_drop h)
  ·exact hshS x (List.mem_append_right _ h)
 have hdlen : (es.drop l).length = es.length - l:=by simp
 have hexec : ∀ (A : Option Addr) (c : Nat),v = .slice A es.length c → es.length ≤ c → (execOp a.eval o).run P w = .ok (.value (.slice (if c = l then A else A.map (·.add (l * s.width))) (es.length - l) (c - l))) w:=fun A c hv hc=>by
  have hbd:=run_bounds (P:=P) (w:=w) hR.tm hlo (hi:=none) rfl true es.length c hc (by rw [hlz];exact hb)
  rw [hlz] at hbd
  simp only [optInt,Option.map_none,Int.toNat_natCast] at hbd
  simp [execOp,ho,he,hv,Instr.sliceAt,run_underlying ht,Instr.slice,hbd,sizeOf,typeInfo,hi',hiw]
 rcases hor with ⟨he0,hsp0,hogn,A,rfl⟩ | ⟨g,ps,hog,rfl,hBg,hh',hmx,hi1,_⟩
 ·subst he0
  subst hsp0
  have hl0 : l = 0:=by simpa using hl1
  subst hl0
  refine wp_value (u:=.slice A 0 0) (w':=w) (by simpa using hexec A 0 rfl (Nat.le_refl _)) (hK _ _ _ hy ⟨S,_,_,hR.moved (id:=id) hf o.dst (World.grownBy.refl w _) (fun g hg=>by rw [hogn] at hg;cases hg) (x:=.slice A 0 0) (wd:=s.width) (o':=none) rfl (fun g hg=>by cases hg)
   ⟨hp,.slice A 0 0,[],[],by simp,hcs,upd_same _ _ _,by simp,VRels.nil,.inl ⟨rfl,rfl,rfl,A,rfl⟩⟩ (.own _ site _ _ (upd_same _ _ _)),hO⟩)
 ·have hnS : ∀ g',og id = some g' → ¬ S g':=fun g' hg'=>by rw [hog] at hg';cases hg';exact hi1 rfl
  have hrun:=hexec _ _ rfl (Nat.le_add_right _ sp.length)
  by_cases hcl : es.length + sp.length = l
  ·have hsp0 : sp = []:=List.eq_nil_of_length_eq_zero (by omega)
   have hd0 : es.drop l = []:=List.drop_eq_nil_of_le (by omega)
   subst hsp0
   rw [if_pos hcl,show es.length - l = 0 by omega,show es.length + ([] : List AV).length - l = 0 by omega] at hrun
   rw [hd0] at hy
   refine wp_value hrun (hK _ _ _ hy ⟨S,_,_,hR.moved (id:=id) hf o.dst (World.grownBy.refl w _) hnS (x:=.slice (some ⟨g,ps.length,none⟩) 0 0) (wd:=s.width) (o':=none) rfl (fun g hg=>by cases hg)
    ⟨hp,_,[],[],by simp,hcs,upd_same _ _ _,by simp,VRels.nil,.inl ⟨rfl,rfl,rfl,_,rfl⟩⟩ (.own _ site _ _ (upd_same _ _ _)),hO⟩)
  ·rw [if_neg hcl] at hrun
   simp only [Option.map_some,add_lit'] at hrun
   have hxl : xs.length = (es.length + sp.length) * s.width:=by rw [hvs.1,flat_length _ hshS,List.length_append]
   have hlw : l * s.width ≤ xs.length:=by rw [hxl];exact Nat.mul_le_mul_right _ (by omega)
   have hpl : (ps ++ xs.take (l * s.width)).length = ps.length + l * s.width:=by rw [List.length_append,List.length_take];omega
   refine wp_value hrun (hK _ _ _ hy ⟨S,_,_,hR.moved (id:=id) hf o.dst (World.grownBy.refl w _) hnS (x:=.slice (some ⟨g,ps.length + l * s.width,none⟩) (es.length - l) (es.length + sp.length - l)) (wd:=s.width) (o':=some g) rfl
    (fun x hx=>by cases hx;exact ⟨.inl hog,hR.lt id g hog⟩) ?_ (.own _ site _ _ (upd_same _ _ _)),hO⟩)
   refine ⟨hp,_,sp,xs.drop (l * s.width),hdsh,hcs,upd_same _ _ _,fun u hu=>h1c u (List.mem_of_mem_drop hu),?_,.inr ⟨g,ps ++ xs.take (l * s.width),rfl,?_,hBg,by rw [List.append_assoc,List.take_append_drop];exact hh',?_,hi1,(fun h=>by cases h)⟩⟩
   ·have:=hvs.drop (l * s.width)
    rw [flat_append,List.drop_append_of_le_length (by rw [flat_length es hsh];exact Nat.mul_le_mul_right _ hl1),← flat_drop es l hsh,← flat_append] at this
    exact this
   ·rw [hpl,hdlen];congr 1;omega
   ·rw [hdlen];omega
theorem op_indexAddr_sub (hR : Rel w S B β og st a) (hO : Out w0 S0 B w S) {t e e' : TypeId} {x i : Operand} {id lo len : Nat} {im : Bool} {s : Sh} {es : List AV} {k : IntKind} {n : Int} (ho : o.op = .indexAddr t x i) (ht : P.underlying t = some (.slice e)) (hx : val st.tm x = .sub id lo len)
  {csp : Option (List AV)} (hl : lookup st.rows id = some (.arr im s e' es csp)) (hi : val st.tm i = .int k n)
  (hsz : sizeOK P e s = true) (hb : inb n len = true) (hle : lo + len ≤ es.length) (hy : y { v:=.eptr id (lo + n.toNat) 0 } = some r) (hK : Good w0 S0 B site o st y r K) : o.wpR R P a w K Q:=by
 have h:=val_rel hR.tm x
 rw [hx] at h
 have h':=val_rel hR.tm i
 rw [hi] at h'
 obtain ⟨b0,b1,b2⟩:=inb_spec hb
 obtain ⟨A,c,hbt,hc,_,hA⟩:=arr_val (hR.row id _ hl)
 obtain ⟨g,bo,rfl,_⟩:=hA (by omega)
 have he:=sub_val hbt h
 rw [if_neg (by omega)] at he
 obtain ⟨ii,hii,hiw⟩:=sizeOK_spec hsz
 refine op_slot (u:=.pointer (some ⟨g,bo + ((lo + n.toNat) * s.width + 0),none⟩)) hR hO (.eptr _ id (lo + n.toNat) 0 g _ _ _ _ hbt) hy hK ?_
 simp [execOp,ho,he,h'.int_inv,Instr.indexAt,asIntOf,run_underlying ht,b0,b1,sizeOf,typeInfo,hii,hiw,add_lit',Nat.add_mul,Nat.add_assoc]
theorem op_cap (hR : Rel w S B β og st a) (hO : Out w0 S0 B w S) {rowsV : List (Nat × Row)} (hsub : ∀ id x,lookup rowsV id = some x → lookup st.rows id = some x) {args : Array Operand} {ts : Array TypeId} {t e e' : TypeId} {tr : List TypeId} {id : Nat} {im : Bool} {s : Sh} {es l : List AV}
  (ho : o.op = .call { callee:=.builtin .cap,args:=args,argTypes:=ts }) (hts : ts.toList = t :: tr) (hx : valsT P st.tm ts.toList args.toList = [.own id]) (ht : P.underlying t = some (.slice e)) (hl : lookup rowsV id = some (.arr im s e' es (some l)))
  (hy : y { v:=.int .i64 (es.length + l.length) } = some r) (hK : Good w0 S0 B site o st y r K) : o.wpR R P a w K Q:=by
 have hv:=valsT_rel hR.tm P ts.toList args.toList
 rw [hx] at hv
 obtain ⟨u,us,he,hu,hn⟩:=hv.inv
 rw [hn.inv_nil] at he
 have hm:=map_eval args _ he
 have ht0 : ts[0]? = some t:=by rw [← Array.getElem?_toList,hts];rfl
 obtain ⟨A,c,hbt,hc,hcl,_⟩:=arr_val (hR.row id _ (hsub _ _ hl))
 have hcc:=hcl l rfl
 subst hcc
 have hu':=own_val hbt hu
 refine op_slot hR hO (.int _ _ _) hy hK ?_
 simp [execOp,ho,resolve,invoke,builtin,hm,Builtin.cap_,ht0,run_underlying ht,goInt,hu']
theorem row_splice {B : Nat → Prop} {id : Nat} {o : Option Nat} {s : Sh} {e : TypeId} {es ds : List AV} {csp : Option (List AV)} (hSlt : ∀ b,S b → b < w.heap.size) (h : RowRel w S B β id o (.arr false s e es csp)) {lo : Nat} {us : List Value} (hds : ∀ x ∈ ds,hasSh s x = true) (hus : VRels w S nob (flat ds) us)
  (h1u : ∀ u ∈ us,u.oneCell' = true) (hle : lo + ds.length ≤ es.length) (hne : ds ≠ []) :
  ∃ g bo xs c,o = some g ∧ ¬ S g ∧ ¬ B g ∧ β id = some (.slice (some ⟨g,bo,none⟩) es.length c,s.width) ∧ es.length ≤ c ∧ Lies w g (List.toArray xs) e (isB s) ∧ bo + lo * s.width + us.length ≤ xs.length ∧ us.length = ds.length * s.width ∧
   RowRel (w.setRow g (xs.take (bo + lo * s.width) ++ us ++ xs.drop (bo + lo * s.width + us.length)).toArray) S B β id o (.arr false s e (es.take lo ++ (ds ++ es.drop (lo + ds.length))) csp):=by
 obtain ⟨hp,v,sp,xs,hshS,hcs,hbt,h1,hvs,hor⟩:=h
 have hpos : 0 < ds.length:=List.length_pos_iff.2 hne
 rcases hor with ⟨rfl,_⟩ | ⟨g,ps,ho,rfl,hBg,hh,hmx,him,_⟩
 ·simp at hle;exact absurd hle.2 (by simpa using hne)
 ·have hul : us.length = ds.length * s.width:=by rw [hus.1,flat_length ds hds]
  have hxl : xs.length = (es.length + sp.length) * s.width:=by rw [hvs.1,flat_length _ hshS,List.length_append]
  have hfit : lo * s.width + us.length ≤ xs.length:=by
   rw [hul,hxl,← Nat.add_mul]
   exact Nat.mul_le_mul_right _ (by omega)
  have hgr:=grownBy_setRow w g (ps ++ (xs.take (lo * s.width) ++ us ++ xs.drop (lo * s.width + us.length))).toArray
  have hwk : ∀ b,S b → (w.setRow g (ps ++ (xs.take (lo * s.width) ++ us ++ xs.drop (lo * s.width + us.length))).toArray).heap[b]? = w.heap[b]?:=fun b hs=>hgr.block b (hSlt b hs) (fun e=>by cases e;exact him rfl hs)
  have hlen : (es.take lo ++ (ds ++ es.drop (lo + ds.length))).length = es.length:=by simp;omega
  refine ⟨g,ps.length,ps ++ xs,_,ho,him rfl,hBg,hbt,by omega,hh,by rw [List.length_append];omega,hul,?_⟩
  rw [take_right]
  refine ⟨hp,_,sp,xs.take (lo * s.width) ++ us ++ xs.drop (lo * s.width + us.length),fun y hy=>?_,hcs,hbt,fun u hu=>?_,?_,.inr ⟨g,ps,ho,by rw [hlen],hBg,hh.setRow (by simp only [List.size_toArray,List.length_append,List.length_take,List.length_drop];omega),by rw [hlen];exact hmx,fun _=>him rfl,(fun h=>by cases h)⟩⟩
  ·simp only [List.mem_append] at hy
   rcases hy with (hy | hy | hy) | hy
   ·exact hshS y (List.mem_append_left _ (List.mem_of_mem_take hy))
   ·exact hds y hy
   ·exact hshS y (List.mem_append_left _ (List.mem_of_mem_drop hy))
   ·exact hshS y (List.mem_append_right _ hy)
  ·simp only [List.mem_append] at hu
   rcases hu with (hu | hu) | hu
   ·exact h1 u (List.mem_of_mem_take hu)
   ·exact h1u u hu
   ·exact h1 u (List.mem_of_mem_drop hu)
  ·refine VRels.mono (w:=w) (S:=S) (β:=nob) ?_ (fun _ h=>h) hwk (fun _ _ h=>h)
   have e1 : flat ((es.take lo ++ (ds ++ es.drop (lo + ds.length))) ++ sp) = (flat (es ++ sp)).take (lo * s.width) ++ flat ds ++ (flat (es ++ sp)).drop (lo * s.width + us.length):=by
    have hshE : ∀ x ∈ es,hasSh s x = true:=fun x hx=>hshS x (List.mem_append_left _ hx)
    have f1 : (flat (es ++ sp)).take (lo * s.width) = flat (es.take lo):=by
     rw [← flat_take (s:=s) _ _ hshS,List.take_append_of_le_length (by omega)]
    have f2 : (flat (es ++ sp)).drop (lo * s.width + us.length) = flat (es.drop (lo + ds.length) ++ sp):=by
     rw [hul,← Nat.add_mul,← flat_drop (s:=s) _ _ hshS,List.drop_append_of_le_length (by omega)]
    rw [f1,f2]
    simp [flat]
   rw [e1]
   exact ((hvs.take _).append hus).append (hvs.drop _)
theorem take_drop_all (es : List AV) (lo : Nat) : es.take lo ++ (([] : List AV) ++ es.drop (lo + 0)) = es:=by simp
theorem op_copy (hR : Rel w S B β og st a) (hO : Out w0 S0 B w S) {rowsV : List (Nat × Row)} (hsub : ∀ id x,lookup rowsV id = some x → lookup st.rows id = some x) {args : Array Operand} {ts : Array TypeId} {t e e' : TypeId} {id lo len : Nat} {s : Sh} {z : AV} {es es2 : List AV} {csp : Option (List AV)}
  (ho : o.op = .call { callee:=.builtin .copy,args:=args,argTypes:=ts }) (hts : ts.toList = [t,t]) (hx : valsT P st.tm ts.toList args.toList = [.sub id lo len,z]) (ht : P.underlying t = some (.slice e)) (hl : lookup rowsV id = some (.arr false s e' es csp)) (hz : elemsOf rowsV z = some (s,es2)) (hsz : sizeOK P e s = true) (hle : lo + len ≤ es.length)
  (hy : y { v:=.int .i64 (min len es2.length : Nat),mod:=some (id,.arr false s e' (es.take lo ++ (es2.take (min len es2.length) ++ es.drop (lo + min len es2.length))) csp) } = some r) (hK : Good w0 S0 B site o st y r K) : o.wpR R P a w K Q:=by
 have hv:=valsT_rel hR.tm P ts.toList args.toList
 rw [hx] at hv
 obtain ⟨u,us,he,hu,hs1⟩:=hv.inv
 obtain ⟨u2,us2,rfl,hu2,hn⟩:=hs1.inv
 rw [hn.inv_nil] at he
 have hm:=map_eval args _ he
 have htt : ts = #[t,t]:=by apply Array.ext';simpa using hts
 obtain ⟨ii,hii,hiw⟩:=sizeOK_spec hsz
 obtain ⟨A2,c2,ad,xs2,rfl,hsh2,hA2,hvs2,h12,hcell,hlm⟩:=elems_sound hR hsub hz hu2
 have hrow:=hR.row id _ (hsub _ _ hl)
 obtain ⟨A,c,hbt,hc,_,hA⟩:=arr_val hrow
 have hu':=sub_val hbt hu
 have hexec : ∀ (x : Value) (w' : World),(Builtin.copy_ #[t,t] o.type #[u,.slice A2 es2.length c2]).run P w = .ok x w' → (execOp a.eval o).run P w = .ok (.value x) w':=fun x w' hrun=>by
  simp only [execOp,ho,resolve,invoke,builtin,hm,htt,Sem.run_bind,Sem.run_pure,Result.andThen_ok,hrun]
 generalize hmm : min len es2.length = m at hy
 have hml : m ≤ len:=by omega
 have hm2 : m ≤ es2.length:=by omega
 have hmin : Nat.min es2.length len = m:=by show min es2.length len = m;omega
 clear hmm
 by_cases h0 : m = 0
 ·rw [h0] at hy
  simp only [List.take_zero] at hy
  rw [take_drop_all] at hy
  rw [h0] at hmin
  have hfc : ∀ x : Value,(Builtin.firstCells ii.size 0 (.slice A2 es2.length c2)).run P w = .ok #[] w:=by
   intro x
   cases A2 <;> simp [Builtin.firstCells,loadCells,loadCellsFrom]
  have hrun : (Builtin.copy_ #[t,t] o.type #[u,.slice A2 es2.length c2]).run P w = .ok (goInt 0) w:=by
   rw [hu']
   generalize (if c = lo then A else A.map (·.add (lo * s.width))) = A'
   cases A' <;> simp [Builtin.copy_,run_underlying ht,Builtin.lenOf,sizeOf,typeInfo,hii,hmin,hfc undef,storeCells]
  have hM:=hR.modify (id:=id) (w':=w) (World.grownBy.refl w _) rfl (fun g hg=>by
   obtain ⟨_,_,_,_,_,_,_,_,_,hor⟩:=hrow
   rcases hor with ⟨_,_,hogn,_⟩ | ⟨g',_,hog,_,_,_,_,him,_⟩
   ·rw [hogn] at hg;cases hg
   ·rw [hog] at hg;cases hg;exact him rfl) hrow
  refine wp_value (hexec _ _ hrun) (hK _ _ _ hy ⟨S,β,og,hM.put o.dst (.int _ _ _),hO⟩)
 ·have hne : es2.take (m) ≠ []:=by
   intro h
   have:=congrArg List.length h
   rw [List.length_take,List.length_nil] at this
   omega
  have hdl : (es2.take (m)).length = m:=by rw [List.length_take];omega
  have hne2 : es2 ≠ []:=by rintro rfl;simp at hne
  have hA2':=hA2 hne2
  subst hA2'
  have hus : VRels w S nob (flat (es2.take (m))) (xs2.take (m * s.width)):=by
   rw [flat_take (s:=s) _ _ hsh2];exact hvs2.take _
  obtain ⟨g,bo,xs,c',hog,hSg,hBg,hbt',hc',hh,hfit,hul,hrow'⟩:=row_splice hR.Slt hrow (lo:=lo) (ds:=es2.take (m)) (fun x hx=>hsh2 x (List.mem_of_mem_take hx)) hus (fun u hu=>h12 u (List.mem_of_mem_take hu)) (by rw [hdl];omega) hne
  rw [hbt] at hbt'
  simp only [Option.some.injEq,Prod.mk.injEq,Value.slice.injEq,and_true,true_and] at hbt'
  obtain ⟨rfl,rfl⟩:=hbt'
  rw [hdl] at hrow' hul
  have hgr:=grownBy_setRow w g (xs.take (bo + lo * s.width) ++ xs2.take (m * s.width) ++ xs.drop (bo + lo * s.width + (xs2.take (m * s.width)).length)).toArray
  have hM:=hR.modify (id:=id) (by rw [hog];exact hgr) (by simp [World.setRow]) (fun g' hg'=>by rw [hog] at hg';cases hg';exact hSg) hrow'
  have hst:=hh.stores (P:=P) (bo + lo * s.width) (xs2.take (m * s.width)) 0 (by simp only [List.size_toArray,Nat.add_zero];exact hfit) (fun u hu=>h12 u (List.mem_of_mem_take hu))
  simp only [Nat.add_zero] at hst
  have hx2l : m * s.width ≤ xs2.length:=by
   rw [hvs2.1,flat_length es2 hsh2]
   exact Nat.mul_le_mul_right _ (by omega)
  have hld:=run_loadCells_take (P:=P) w ad xs2 (m * s.width) hx2l hcell
  have hrun : (Builtin.copy_ #[t,t] o.type #[u,.slice (some ad) es2.length c2]).run P w = .ok (goInt (m : Int)) (w.setRow g (xs.take (bo + lo * s.width) ++ xs2.take (m * s.width) ++ xs.drop (bo + lo * s.width + (xs2.take (m * s.width)).length)).toArray):=by
   rw [hu',if_neg (by omega)]
   simp only [Option.map_some,add_lit']
   simp [Builtin.copy_,run_underlying ht,Builtin.lenOf,Builtin.firstCells,sizeOf,typeInfo,hii,hiw,hmin,hld,hst]
  refine wp_value (hexec _ _ hrun) (hK _ _ _ hy ⟨S,β,og,hM.put o.dst (.int _ _ _),hO.grownBy hR.Ble hgr (fun k hk=>by cases hk;exact hBg)⟩)
end ops
end Go.Ev

namespace Go.Ev
open Go.RowKit
section ops
variable {R : Option Nat} {ρ : Type} {P : Program} {w0 w : World} {S0 S : Nat → Prop} {B : Ctx} {β : Bet} {og : Nat → Option Nat} {st : St} {a : Act} {o : Oper} {site : Nat} {y : Eff → Option ρ} {r : ρ}
 {K : Act → World → Prop} {Q : Exit → Act → World → Prop}
theorem op_clear (hR : Rel w S B β og st a) (hO : Out w0 S0 B w S) {rowsV : List (Nat × Row)} (hsub : ∀ id x,lookup rowsV id = some x → lookup st.rows id = some x) {args : Array Operand} {ts : Array TypeId} {t e e' : TypeId} {id lo len : Nat} {s : Sh} {es : List AV} {csp : Option (List AV)}
  (ho : o.op = .call { callee:=.builtin .clear,args:=args,argTypes:=ts }) (hts : ts.toList = [t]) (hx : valsT P st.tm ts.toList args.toList = [.sub id lo len]) (ht : P.underlying t = some (.slice e)) (hl : lookup rowsV id = some (.arr false s e' es csp)) (hse : s = shOf P depth e) (hel : elemOK P e = true) (hle : lo + len ≤ es.length)
  (hy : y { v:=.undef,mod:=some (id,.arr false s e' (es.take lo ++ (List.replicate len (zeroE P e) ++ es.drop (lo + len))) csp) } = some r) (hK : Good w0 S0 B site o st y r K) : o.wpR R P a w K Q:=by
 have hv:=valsT_rel hR.tm P ts.toList args.toList
 rw [hx] at hv
 obtain ⟨u,us,he,hu,hn⟩:=hv.inv
 rw [hn.inv_nil] at he
 have hm:=map_eval args _ he
 have htt : ts = #[t]:=by apply Array.ext';simpa using hts
 obtain ⟨i,zz,hi,hzz,hiw,hpos,hzs,hby,zc,hza,hhz⟩:=elemOK_spec hel
 have hrow:=hR.row id _ (hsub _ _ hl)
 obtain ⟨A,c,hbt,hc,_,hA⟩:=arr_val hrow
 have hu':=sub_val hbt hu
 have hexec : ∀ (x : Value) (w' : World),(Builtin.clear_ #[t] o.type #[u]).run P w = .ok x w' → (execOp a.eval o).run P w = .ok (.value x) w':=fun x w' hrun=>by
  simp only [execOp,ho,resolve,invoke,builtin,hm,htt,Sem.run_bind,Sem.run_pure,Result.andThen_ok,hrun]
 by_cases h0 : len = 0
 ·subst h0
  simp only [List.replicate_zero] at hy
  rw [take_drop_all] at hy
  have hrun : (Builtin.clear_ #[t] o.type #[u]).run P w = .ok undef w:=by
   rw [hu']
   generalize (if c = lo then A else A.map (·.add (lo * s.width))) = A'
   cases A' <;> simp [Builtin.clear_,run_underlying ht] <;> rfl
  have hM:=hR.modify (id:=id) (w':=w) (World.grownBy.refl w _) rfl (fun g hg=>by
   obtain ⟨_,_,_,_,_,_,_,_,_,hor⟩:=hrow
   rcases hor with ⟨_,_,hogn,_⟩ | ⟨g',_,hog,_,_,_,_,him,_⟩
   ·rw [hogn] at hg;cases hg
   ·rw [hog] at hg;cases hg;exact him rfl) hrow
  exact wp_value (hexec _ _ hrun) (hK _ _ _ hy ⟨S,β,og,hM.put o.dst (.undef _),hO⟩)
 ·obtain ⟨z1,z2,z3⟩:=zeros_rel hi hzz hzs hpos hza hhz w S nob len
  rw [← hse] at z1
  have hne : List.replicate len (zeroE P e) ≠ []:=by
   intro h
   have:=congrArg List.length h
   simp at this
   exact h0 this
  obtain ⟨g,bo,xs,c',hog,hSg,hBg,hbt',hc',hh,hfit,hul,hrow'⟩:=row_splice hR.Slt hrow (lo:=lo) (ds:=List.replicate len (zeroE P e)) (fun x hx=>by rw [(List.mem_replicate.1 hx).2];exact z1) z2 z3 (by simpa using hle) hne
  rw [hbt] at hbt'
  simp only [Option.some.injEq,Prod.mk.injEq,Value.slice.injEq,and_true,true_and] at hbt'
  obtain ⟨rfl,rfl⟩:=hbt'
  rw [List.length_replicate] at hrow'
  have hgr:=grownBy_setRow w g (xs.take (bo + lo * s.width) ++ (Builtin.zeroCells zz.cells len).toList ++ xs.drop (bo + lo * s.width + (Builtin.zeroCells zz.cells len).toList.length)).toArray
  have hM:=hR.modify (id:=id) (by rw [hog];exact hgr) (by simp [World.setRow]) (fun g' hg'=>by rw [hog] at hg';cases hg';exact hSg) hrow'
  have hst:=hh.stores (P:=P) (bo + lo * s.width) (Builtin.zeroCells zz.cells len).toList 0 (by simp only [List.size_toArray,Nat.add_zero];exact hfit) z3
  simp only [Nat.add_zero] at hst
  have hrun : (Builtin.clear_ #[t] o.type #[u]).run P w = .ok undef (w.setRow g (xs.take (bo + lo * s.width) ++ (Builtin.zeroCells zz.cells len).toList ++ xs.drop (bo + lo * s.width + (Builtin.zeroCells zz.cells len).toList.length)).toArray):=by
   rw [hu',if_neg (by omega)]
   simp only [Option.map_some,add_lit']
   obtain ⟨len,rfl⟩:=Nat.exists_eq_succ_of_ne_zero h0
   simp only [Builtin.clear_,List.getElem?_toArray,List.getElem?_cons_zero,Sem.run_bind,run_underlying ht,Result.andThen_ok,zeroValue,typeInfo,run_program,hi,hzz,Sem.run_pure,hst]
   rfl
  exact wp_value (hexec _ _ hrun) (hK _ _ _ hy ⟨S,β,og,hM.put o.dst (.undef _),hO.grownBy hR.Ble hgr (fun k hk=>by cases hk;exact hBg)⟩)
theorem wrap_nat (n : Nat) (h : n ≤ 4611686018427387904) : IntKind.i64.wrap (n : Int) = n:=IntWalk.i64_in _ (by omega)
theorem run_append_zeros (t u ty e : TypeId) (i : TypeInfo) (z : Value) (ht : P.underlying t = some (.slice e)) {k k' : IntKind} (hut : P.underlying u = some (.int k')) (hi : P.info? e = some i) (hz : i.zero = some z) (hpos : 0 < i.size)
  (A : Option Addr) (sLen sCap n : Nat) (olds : List Value) (hlo : olds.length = sLen * i.size) (holds : ∀ b,A = some b → ∀ j v,olds[j]? = some v → w.cell? (b.add j) = some v) (hA : A = none → sLen = 0)
  (hg : sCap < sLen + n) (hn : 0 < n) (h63 : sLen + n ≤ 4611686018427387904) (hb : n * i.bytes ≤ 281474976710656) (hfit : Builtin.nextslicecap (sLen + n) sCap * i.bytes ≤ 281474976710656) :
  (Builtin.append_ #[t,u] ty #[.slice A sLen sCap,.int k (n : Int)]).run P w =
   .ok (.slice (some ⟨w.heap.size,0,none⟩) (sLen + n) (grownCap w (sLen + n) sCap e))
    (w.drew.alloc (.cells ((olds ++ (Builtin.zeroCells z.cells n).toList).toArray ++ Builtin.zeroCells z.cells (grownCap w (sLen + n) sCap e - (sLen + n))) e)):=by
 have hng : ¬ (sLen + n ≤ sCap):=by omega
 have h63' : ¬ (9223372036854775807 < ((sLen : Int) + (n : Int))):=by omega
 have h48' : ¬ (281474976710656 < Builtin.nextslicecap (sLen + n) sCap * i.bytes):=by omega
 have hwr : IntKind.i64.wrap (n : Int) = n:=wrap_nat n (by omega)
 have hnn : ¬ ((n : Int) < 0):=by omega
 have hbb : ¬ ((281474976710656 : Int) < (n : Int) * (i.bytes : Int)):=by
  have:=Int.ofNat_le.2 hb
  rw [Int.natCast_mul] at this
  exact Int.not_lt.2 this
 have hn0 : ¬ (n * i.size = 0):=by
  intro h
  rcases Nat.mul_eq_zero.1 h with h | h <;> omega
 have hfo : (Builtin.firstCells i.size sLen (.slice A sLen sCap)).run P w.drew = .ok olds.toArray w.drew:=by
  cases A with
  | none =>
   have h0:=hA rfl
   subst h0
   have : olds = []:=List.eq_nil_of_length_eq_zero (by simpa using hlo)
   subst this
   simp [Builtin.firstCells]
  | some b=>exact run_firstCells_some (P:=P) w.drew i.size sLen b sLen sCap olds hlo (by simpa using holds b rfl)
 simp [Builtin.append_,run_underlying ht,run_underlying hut,sizeOf,typeInfo,zeroValue,hi,hz,asInt,asIntOf,hwr,hnn,hbb,hn0,hng,h63',h48',Question.forced,hfo,newRow,grownCap]
 congr 2
 apply Array.ext'
 simp [List.append_assoc]
theorem op_append_zeros (hR : Rel w S B β og st a) (hO : Out w0 S0 B w S) {rowsV : List (Nat × Row)} (hsub : ∀ id x,lookup rowsV id = some x → lookup st.rows id = some x) (hf : Fresh site st.used) {args : Array Operand} {ts : Array TypeId} {t t' e e' : TypeId} {id i : Nat} {im : Bool} {k k' : IntKind} {n : Int} {s : Sh} {es sp : List AV}
  (ho : o.op = .call { callee:=.builtin .append,args:=args,argTypes:=ts }) (hts : ts.toList = [t,t']) (hx : valsT P st.tm ts.toList args.toList = [.sub id 0 i,.int k n]) (ht : P.underlying t = some (.slice e)) (ht' : P.underlying t' = some (.int k')) (hl : lookup rowsV id = some (.arr im s e' es (some sp))) (hse : s = shOf P depth e) (hel : elemOK P e = true) (hie : i ≤ es.length) (hn : 0 ≤ n)
  (hgt : es.length + sp.length < i + n.toNat) (hroom : roomB (i + n.toNat) (P.bytesOf e) = true)
  (hy : y { v:=.own site,new:=some (.arr false s e (es.take i ++ List.replicate n.toNat (zeroE P e)) none) } = some r) (hK : Good w0 S0 B site o st y r K) : o.wpR R P a w K Q:=by
 have hv:=valsT_rel hR.tm P ts.toList args.toList
 rw [hx] at hv
 obtain ⟨u,us,he,hu,hs1⟩:=hv.inv
 obtain ⟨u2,us2,rfl,hu2,hnl⟩:=hs1.inv
 rw [hnl.inv_nil] at he
 have hm:=map_eval args _ he
 have htt : ts = #[t,t']:=by apply Array.ext';simpa using hts
 obtain ⟨ii,zz,hi,hzz,hiw,hpos,hzs,hby,zc,hza,hhz⟩:=elemOK_spec hel
 obtain ⟨hb1,hb2⟩:=roomB_spec hroom
 have hrow:=hR.row id _ (hsub _ _ hl)
 obtain ⟨A,c,hbt,hc,hcl,hA⟩:=arr_val hrow
 have hcc:=hcl sp rfl
 have hu':=sub_val hbt hu
 have hu2':=hu2.int_inv
 obtain ⟨hp,v,sp',xs,hshS,hcs,hbt',h1,hvs,hor⟩:=hrow
 have hsp : sp = sp':=hcs sp rfl
 subst hsp
 rw [hbt] at hbt'
 simp only [Option.some.injEq,Prod.mk.injEq,and_true] at hbt'
 subst hbt'
 have hshE : ∀ x ∈ es.take i,hasSh s x = true:=fun x hx=>hshS x (List.mem_append_left _ (List.mem_of_mem_take hx))
 have hxl : xs.length = (es.length + sp.length) * ii.size:=by rw [hvs.1,flat_length _ hshS,List.length_append,hiw,hse]
 have hole : i * ii.size ≤ xs.length:=by rw [hxl];exact Nat.mul_le_mul_right _ (by omega)
 have hol : (xs.take (i * ii.size)).length = i * ii.size:=by rw [List.length_take];omega
 have hvo : VRels w S nob (flat (es.take i)) (xs.take (i * ii.size)):=by
  have:=hvs.take (i * ii.size)
  rw [hiw,← hse,← flat_take (s:=s) _ _ hshS,List.take_append_of_le_length hie] at this
  rw [hiw,← hse]
  exact this
 obtain ⟨z1,z2,z3⟩:=zeros_rel hi hzz hzs hpos hza hhz w S nob n.toNat
 rw [← hse] at z1
 have hshN : ∀ x ∈ es.take i ++ List.replicate n.toNat (zeroE P e),hasSh s x = true:=fun x hx=>by
  rcases List.mem_append.1 hx with h | h
  ·exact hshE x h
  ·rw [(List.mem_replicate.1 h).2];exact z1
 have hvN : VRels w S nob (flat (es.take i ++ List.replicate n.toNat (zeroE P e))) (xs.take (i * ii.size) ++ (Builtin.zeroCells zz.cells n.toNat).toList):=by rw [flat_append];exact hvo.append z2
 have h1N : ∀ u ∈ xs.take (i * ii.size) ++ (Builtin.zeroCells zz.cells n.toNat).toList,u.oneCell' = true:=fun x hx=>by
  rcases List.mem_append.1 hx with h | h
  ·exact h1 x (List.mem_of_mem_take h)
  ·exact z3 x h
 have hlN : (es.take i ++ List.replicate n.toNat (zeroE P e)).length = i + n.toNat:=by simp;omega
 have hA' : ∃ A',u = .slice A' i c ∧ (∀ b,A' = some b → ∀ (j : Nat) (v : Value),(xs.take (i * ii.size))[j]? = some v → w.cell? (b.add j) = some v) ∧ (A' = none → i = 0):=by
  rcases Nat.eq_zero_or_pos c with h0 | h0
  ·refine ⟨A,?_,fun b _ j v hj=>?_,fun _=>by omega⟩
   ·rw [hu',if_pos h0];rfl
   ·have hi0 : i = 0:=by omega
    subst hi0
    simp at hj
  ·obtain ⟨g,bo,rfl,hog⟩:=hA h0
   refine ⟨some ⟨g,bo,none⟩,?_,fun b hb j v hj=>?_,fun h=>by cases h⟩
   ·rw [hu',if_neg (by omega)]
    simp [Addr.add]
   ·cases hb
    rcases hor with ⟨rfl,rfl,_⟩ | ⟨g',ps,hog',hvv,_,hh,_⟩
    ·simp at hcc;omega
    ·rw [hog] at hog'
     cases hog'
     simp only [Value.slice.injEq,Option.some.injEq,Addr.mk.injEq,true_and,and_true] at hvv
     rw [hvv.1,add_lit',row_cell hh,behind]
     rw [List.getElem?_take] at hj
     split at hj
     ·exact hj
     ·cases hj
 obtain ⟨A',hue,hold,hnone⟩:=hA'
 have hnn : ((n.toNat : Nat) : Int) = n:=by omega
 have hrun:=run_append_zeros (P:=P) (w:=w) t t' o.type e ii zz ht (k:=k) ht' hi hzz hpos A' i c n.toNat _ hol hold hnone (by omega) (by omega) (by omega)
  (by rw [hby];exact Nat.le_trans (Nat.mul_le_mul_right _ (by omega)) (Nat.le_trans hb1 (by decide))) (by rw [hby];exact roomB_fits hroom (by omega))
 rw [hnn] at hrun
 have hexec : ∀ (x : Value) (w' : World),(Builtin.append_ #[t,t'] o.type #[.slice A' i c,.int k n]).run P w = .ok x w' → (execOp a.eval o).run P w = .ok (.value x) w':=fun x w' hrun=>by
  simp only [execOp,ho,resolve,invoke,builtin,hm,htt,hue,hu2',Sem.run_bind,Sem.run_pure,Result.andThen_ok,hrun]
 have hb:=below_drew_alloc w (.cells ((xs.take (i * ii.size) ++ (Builtin.zeroCells zz.cells n.toNat).toList).toArray ++ Builtin.zeroCells zz.cells (grownCap w (i + n.toNat) c e - (i + n.toNat))) e)
 have hN:=hR.new site hf o.dst hb (S':=S) (fun _ h=>h) (fun _ _ h=>h) (fun b hs=>Nat.lt_of_lt_of_le (hR.Slt b hs) hb.size) (x:=.slice (some ⟨w.heap.size,0,none⟩) (i + n.toNat) (grownCap w (i + n.toNat) c e)) (wd:=s.width) (o:=some w.heap.size) rfl (fun g hg=>by cases hg;simp)
  (r:=.arr false s e (es.take i ++ List.replicate n.toNat (zeroE P e)) none) (v:=.own site) (u:=.slice (some ⟨w.heap.size,0,none⟩) (i + n.toNat) (grownCap w (i + n.toNat) c e)) ?_ (.own _ site _ _ (upd_same _ _ _))
 ·exact wp_value (hexec _ _ hrun) (hK _ _ _ hy ⟨S,_,_,hN,hO.grow hR.Ble hb⟩)
 ·rw [← hlN]
  exact rowrel_new (w:=w) hR.Slt hR.Ble hi hzz hzs hpos hiw hza hhz hse hshN hvN h1N (grownCap_ge _ _ _ _) (grownCap_le_maxLen _ _ _ _ (by rw [hlN];simp only [maxLen];omega)) (w1:=w.drew) rfl (upd_same _ _ _)
theorem op_makeSlice (hR : Rel w S B β og st a) (hO : Out w0 S0 B w S) (hf : Fresh site st.used) {t e : TypeId} {l c : Operand} {k k' : IntKind} {n : Int} (ho : o.op = .makeSlice t l c) (ht : P.underlying t = some (.slice e)) (hl : val st.tm l = .int k n) (hc : val st.tm c = .int k' n) (hel : elemOK P e = true) (hn : 0 ≤ n) (hroom : roomB n.toNat (P.bytesOf e) = true)
  (hy : y { v:=.own site,new:=some (.arr false (shOf P depth e) e (List.replicate n.toNat (zeroE P e)) none) } = some r) (hK : Good w0 S0 B site o st y r K) : o.wpR R P a w K Q:=by
 have hlv:=val_rel hR.tm l
 rw [hl] at hlv
 have hcv:=val_rel hR.tm c
 rw [hc] at hcv
 have hle:=hlv.int_inv
 have hce:=hcv.int_inv
 obtain ⟨ii,zz,hi,hzz,hiw,hpos,hzs,hby,zc,hza,hhz⟩:=elemOK_spec hel
 obtain ⟨hb1,hb2⟩:=roomB_spec hroom
 obtain ⟨z1,z2,z3⟩:=zeros_rel hi hzz hzs hpos hza hhz w S nob n.toNat
 have hbb : (ii.bytes : Int) * n ≤ 281474976710656:=by
  have h1 : n.toNat * ii.bytes ≤ 150000000000000:=by rw [hby];exact hb1
  have h2 : ((n.toNat * ii.bytes : Nat) : Int) ≤ 150000000000000:=by omega
  rw [Int.natCast_mul,Int.toNat_of_nonneg hn,Int.mul_comm] at h2
  omega
 have hmc : Go.madeCells zz.cells (n.toNat * ii.size) = Builtin.zeroCells zz.cells n.toNat:=by
  unfold Go.madeCells Builtin.zeroCells
  rw [hzs]
 have hrun:=run_make (P:=P) w t e ii zz ht hi hzz k k' n n hn (Int.le_refl _) hbb (by omega)
 rw [hmc] at hrun
 have hexec : ∀ (x : Value) (w' : World),(Instr.makeSlice t (.int k n) (.int k' n)).run P w = .ok x w' → (execOp a.eval o).run P w = .ok (.value x) w':=fun x w' hrun=>by
  simp only [execOp,ho,hle,hce,Sem.run_bind,Sem.run_pure,Result.andThen_ok,hrun]
 have hx : Builtin.zeroCells zz.cells n.toNat = (Builtin.zeroCells zz.cells n.toNat).toList.toArray ++ Builtin.zeroCells zz.cells (n.toNat - (List.replicate n.toNat (zeroE P e)).length):=by
  rw [List.length_replicate,Nat.sub_self]
  apply Array.ext'
  simp [Builtin.zeroCells]
 have hb:=below_alloc w (.cells (Builtin.zeroCells zz.cells n.toNat) e)
 have hN:=hR.new site hf o.dst hb (S':=S) (fun _ h=>h) (fun _ _ h=>h) (fun b hs=>Nat.lt_of_lt_of_le (hR.Slt b hs) hb.size) (x:=.slice (some ⟨w.heap.size,0,none⟩) n.toNat n.toNat) (wd:=(shOf P depth e).width) (o:=some w.heap.size) rfl (fun g hg=>by cases hg;simp)
  (r:=.arr false (shOf P depth e) e (List.replicate n.toNat (zeroE P e)) none) (v:=.own site) (u:=.slice (some ⟨w.heap.size,0,none⟩) n.toNat n.toNat) ?_ (.own _ site _ _ (upd_same _ _ _))
 ·exact wp_value (hexec _ _ hrun) (hK _ _ _ hy ⟨S,_,_,hN,hO.grow hR.Ble hb⟩)
 ·have:=rowrel_new (w:=w) (β':=upd β site (some (.slice (some ⟨w.heap.size,0,none⟩) n.toNat n.toNat,(shOf P depth e).width))) (id:=site) hR.Slt hR.Ble hi hzz hzs hpos hiw hza hhz rfl (es:=List.replicate n.toNat (zeroE P e)) (fun x hx=>by rw [(List.mem_replicate.1 hx).2];exact z1) z2 z3 (cap:=n.toNat) (by simp) (by simp only [maxLen];omega) (w1:=w) rfl (by rw [List.length_replicate];exact upd_same _ _ _)
  rw [← hx] at this
  exact this
def bInts (s : List UInt8) : List Int:=s.map fun (b : UInt8)=>(b.toNat : Int)
theorem bytes_ints (s : List UInt8) : bytesAV s = (bInts s).map (AV.int .u8):=by
 unfold bytesAV bInts;rw [List.map_map];rfl
theorem byteT_spec {e : TypeId} (h : byteT P e = true) : P.underlying e = some (.int .u8):=by
 unfold byteT at h
 split at h
 ·assumption
 ·cases h
theorem below_bytes (w : World) (e : TypeId) (s : ByteArray) : Below w.heap.size w (Lib.bytesWorld w e s) :=
 ⟨by simp [Lib.bytesWorld,World.freeze,World.alloc,World.drew,-World.alloc_eq,-World.drew_eq],by simp [Lib.bytesWorld,World.freeze,World.alloc,World.drew,-World.alloc_eq,-World.drew_eq],by simp [Lib.bytesWorld,World.freeze,World.alloc,World.drew,-World.alloc_eq,-World.drew_eq],by rw [Lib.bytesWorld_size];omega,fun j hj=>Lib.bytesWorld_at_old w e s j hj⟩
theorem ints_rel (w : World) (S : Nat → Prop) (β : Bet) (k : IntKind) : ∀ l : List Int,VRels w S β (l.map (AV.int k)) (l.map (Value.int k))
 | []=>VRels.nil
 | _ :: l=>VRels.cons (.int _ _ _) (ints_rel w S β k l)
theorem flat_ints (k : IntKind) : ∀ l : List Int,flat (l.map (AV.int k)) = l.map (AV.int k)
 | []=>rfl
 | n :: l=>by
  show AV.cells (AV.int k n) ++ flat (l.map (AV.int k)) = _
  rw [flat_ints k l];rfl
theorem op_bytes (hR : Rel w S B β og st a) (hO : Out w0 S0 B w S) (hf : Fresh site st.used) {src dst e : TypeId} {x : Operand} {s : List UInt8} (ho : o.op = .convert src dst x) (hs : P.underlying src = some .string) (hd : P.underlying dst = some (.slice e)) (hx : valT P st.tm src x = .str s) (hb : byteT P e = true) (hl : lenB s.length = true)
  (hy : y { v:=.own site,new:=some (.arr false (.int .u8) e (bytesAV s) none) } = some r) (hK : Good w0 S0 B site o st y r K) : o.wpR R P a w K Q:=by
 have hv:=valT_rel hR.tm P src x
 rw [hx] at hv
 have he:=hv.str_inv
 have hub:=byteT_spec hb
 have hn : s.length ≤ maxLen:=by
  have:=of_decide_eq_true (show decide (s.length ≤ 9223372036854775807) = true from hl)
  simp only [maxLen];omega
 have hrun:=Lib.run_convert_string_bytes (P:=P) w src dst e ⟨s.toArray⟩ hs hd hub
 have hsz : (ByteArray.mk s.toArray).size = s.length:=by simp [ByteArray.size]
 rw [hsz] at hrun
 have hexec : (execOp a.eval o).run P w = .ok (.value (.slice (some ⟨w.heap.size,0,none⟩) s.length (grownCap w s.length 0 e))) (Lib.bytesWorld w e ⟨s.toArray⟩):=by
  simp only [execOp,ho,he,Sem.run_bind,Sem.run_pure,Result.andThen_ok,hrun]
 have hge:=grownCap_ge w s.length 0 e
 have hlm:=grownCap_le_maxLen w s.length 0 e hn
 have hbl:=below_bytes w e ⟨s.toArray⟩
 have hcells : Lib.bytesCells w e ⟨s.toArray⟩ = ((bInts s ++ List.replicate (grownCap w s.length 0 e - s.length) 0).map (Value.int .u8)).toArray:=by
  unfold Lib.bytesCells
  rw [hsz]
  apply Array.ext'
  simp [bInts]
 have hN:=hR.new site hf o.dst hbl (S':=S) (fun _ h=>h) (fun _ _ h=>h) (fun b hs=>Nat.lt_of_lt_of_le (hR.Slt b hs) hbl.size) (x:=.slice (some ⟨w.heap.size,0,none⟩) s.length (grownCap w s.length 0 e)) (wd:=(Sh.int .u8).width) (o:=some w.heap.size) rfl (fun g hg=>by cases hg;rw [Lib.bytesWorld_size];omega)
  (r:=.arr false (.int .u8) e (bytesAV s) none) (v:=.own site) (u:=.slice (some ⟨w.heap.size,0,none⟩) s.length (grownCap w s.length 0 e)) ?_ (.own _ site _ _ (upd_same _ _ _))
 ·exact wp_value hexec (hK _ _ _ hy ⟨S,_,_,hN,hO.grow hR.Ble hbl⟩)
 ·have hes : bytesAV s ++ (List.replicate (grownCap w s.length 0 e - s.length) (0 : Int)).map (AV.int .u8) = (bInts s ++ List.replicate (grownCap w s.length 0 e - s.length) 0).map (AV.int .u8):=by
   rw [bytes_ints,List.map_append]
  have hbl2 : (bytesAV s).length = s.length:=by unfold bytesAV;simp
  refine ⟨by decide,_,(List.replicate (grownCap w s.length 0 e - s.length) (0 : Int)).map (AV.int .u8),(bInts s ++ List.replicate (grownCap w s.length 0 e - s.length) 0).map (Value.int .u8),?_,(fun c h=>by cases h),upd_same _ _ _,?_,?_,.inr ⟨w.heap.size,[],rfl,?_,fun h=>Nat.lt_irrefl _ (hR.Ble _ h),?_,?_,fun _ hs=>absurd (hR.Slt _ hs) (Nat.lt_irrefl _),(fun h=>by cases h)⟩⟩
  ·rw [hes]
   intro v hv
   obtain ⟨n,_,rfl⟩:=List.mem_map.1 hv
   rfl
  ·intro u hu
   obtain ⟨n,_,rfl⟩:=List.mem_map.1 hu
   rfl
  ·rw [hes,flat_ints]
   exact ints_rel _ _ _ _ _
  ·rw [hbl2,List.length_map,List.length_replicate,Nat.add_sub_cancel' hge];rfl
  ·refine ⟨_,.inr ⟨rfl,rfl⟩,?_⟩
   have:=Lib.bytesWorld_at_new w e ⟨s.toArray⟩
   rw [hcells] at this
   exact this
  ·rw [hbl2,List.length_map,List.length_replicate,Nat.add_sub_cancel' hge];exact hlm
theorem op_mark (hR : Rel w S B β og st a) (hO : Out w0 S0 B w S) {rowsV : List (Nat × Row)} (hsub : ∀ id x,lookup rowsV id = some x → lookup st.rows id = some x) {src dst e e0 e' : TypeId} {x : Operand} {id : Nat} {s : Sh} {es : List AV} {sp : Option (List AV)} (ho : o.op = .convert src dst x) (hs : P.underlying src = some (.slice e0)) (hd : P.underlying dst = some (.slice e)) (hx : valT P st.tm src x = .own id) (hsd : (src == dst) = true) (hb : byteT P e = true) (hl : lookup rowsV id = some (.arr false s e' es sp)) (hsh : Sh.beq s (.int .u8) = true) (hne : es ≠ [])
  (hy : y { v:=.own id,mod:=some (id,.arr false s e' es sp) } = some r) (hK : Good w0 S0 B site o st y r K) : o.wpR R P a w K Q:=by
 have hv:=valT_rel hR.tm P src x
 rw [hx] at hv
 obtain ⟨hp,v,sp',xs,hshS,hcs,hbt,h1,hvs,hor⟩:=hR.row id _ (hsub _ _ hl)
 rcases hor with ⟨he0,_⟩ | ⟨g,ps,hog,rfl,hBg,hh,hmx,hi1,hi2⟩
 ·exact absurd he0 hne
 have he : a.eval x = .slice (some ⟨g,ps.length,none⟩) es.length (es.length + sp'.length):=by
  generalize hu : a.eval x = u at hv
  cases hv with
  | own _ _ v' wd hb' =>
   rw [hbt] at hb'
   simp only [Option.some.injEq,Prod.mk.injEq] at hb'
   exact hb'.1.symm
 obtain rfl:=Sh.beq_eq _ _ hsh
 obtain ⟨fz,hfz,hg⟩:=hh
 have hlt : g < w.heap.size:=hR.lt id g hog
 have hsh2 : w.shape? g = some (e',(ps ++ xs).length):=by
  unfold World.shape?
  rw [hg]
  simp
 have hw' : (w.freeze ⟨g,(ps ++ xs).length,none⟩ 1).heap[g]? = some (.cells (ps ++ xs).toArray e' ((ps ++ xs).length,(ps ++ xs).length + 1)):=by
  unfold World.freeze
  rw [if_neg (by decide)]
  simp only [Array.getElem?_modify,if_pos,hg,Option.map_some]
  rcases hfz with rfl | ⟨_,rfl⟩
  ·rfl
  ·simp
 have hother : ∀ k,k ≠ g → (w.freeze ⟨g,(ps ++ xs).length,none⟩ 1).heap[k]? = w.heap[k]?:=fun k hk=>by
  unfold World.freeze
  rw [if_neg (by decide)]
  simp only [Array.getElem?_modify]
  rw [if_neg (fun e=>hk e.symm)]
 have hsize : (w.freeze ⟨g,(ps ++ xs).length,none⟩ 1).heap.size = w.heap.size:=by
  unfold World.freeze
  rw [if_neg (by decide)]
  simp
 have hgr : w.grownBy (w.freeze ⟨g,(ps ++ xs).length,none⟩ 1) (some g):=⟨by unfold World.freeze;rw [if_neg (by decide)],by unfold World.freeze;rw [if_neg (by decide)],by unfold World.freeze;rw [if_neg (by decide)],by rw [hsize];exact Nat.le_refl _,fun k _ hk=>hother k (fun e=>hk (by rw [e]))⟩
 have hw : ∀ b,S b → (w.freeze ⟨g,(ps ++ xs).length,none⟩ 1).heap[b]? = w.heap[b]?:=fun b hs=>hother b (fun e=>hi1 rfl (by rw [← e];exact hs))
 have hub:=byteT_spec hb
 have hsd' : src = dst:=by simpa using hsd
 subst hsd'
 rw [hs] at hd
 cases hd
 have hexec : (execOp a.eval o).run P w = .ok (.value (.slice (some ⟨g,ps.length,none⟩) es.length (es.length + sp'.length))) (w.freeze ⟨g,(ps ++ xs).length,none⟩ 1):=by
  simp [execOp,ho,he,convert,run_underlying hs,run_underlying hub,markStringish,hsh2]
 have hM:=hR.modify (id:=id) (by rw [hog];exact hgr) hsize (fun g' hg'=>by rw [hog] at hg';cases hg';exact hi1 rfl)
  (r1:=.arr false (.int .u8) e' es sp) ⟨hp,_,sp',xs,hshS,hcs,hbt,h1,hvs.mono (fun _ h=>h) hw (fun _ _ h=>h),.inr ⟨g,ps,hog,rfl,hBg,⟨_,.inr ⟨rfl,rfl⟩,by simpa using hw'⟩,hmx,hi1,hi2⟩⟩
 exact wp_value hexec (hK _ _ _ hy ⟨S,β,og,hM.put o.dst (.own _ id _ _ hbt),hO.grownBy hR.Ble hgr (fun k hk=>by cases hk;exact hBg)⟩)
theorem push_all : ∀ (ns : List Int) (s : List UInt8),ns.foldl (fun r n=>ByteArray.push r (UInt8.ofNat n.toNat)) ⟨s.toArray⟩ = ⟨(s ++ ns.map fun n=>UInt8.ofNat n.toNat).toArray⟩
 | [],s=>by simp
 | n :: ns,s=>by
  rw [List.foldl_cons]
  have : ByteArray.push ⟨s.toArray⟩ (UInt8.ofNat n.toNat) = ⟨(s ++ [UInt8.ofNat n.toNat]).toArray⟩:=by
   simp [ByteArray.push]
  rw [this,push_all ns]
  simp
theorem op_string (hR : Rel w S B β og st a) (hO : Out w0 S0 B w S) {rowsV : List (Nat × Row)} (hsub : ∀ id x,lookup rowsV id = some x → lookup st.rows id = some x) {src dst e : TypeId} {x : Operand} {s : Sh} {es : List AV} (ho : o.op = .convert src dst x) (hs : P.underlying src = some (.slice e)) (hd : P.underlying dst = some .string) (hx : elemsOf rowsV (valT P st.tm src x) = some (s,es)) (hb : byteT P e = true) (hsh : Sh.beq s (.int .u8) = true)
  (hy : y { v:=.str (strAV es) } = some r) (hK : Good w0 S0 B site o st y r K) : o.wpR R P a w K Q:=by
 have hv:=valT_rel hR.tm P src x
 obtain ⟨A,c,ad,xs,he,hse,hA,hvs,h1,hxc,hlm⟩:=elems_sound hR hsub hx hv
 have hub:=byteT_spec hb
 obtain rfl:=Sh.beq_eq _ _ hsh
 obtain ⟨ns,hns⟩ : ∃ ns : List Int,es = ns.map (AV.int .u8):=by
  refine ⟨es.map AV.toInt,?_⟩
  rw [List.map_map]
  symm
  conv=>rhs;rw [← List.map_id es]
  refine List.map_congr_left fun v hv=>?_
  have:=hse v hv
  cases v <;> simp [hasSh,has1] at this
  subst this
  rfl
 subst hns
 rw [flat_ints] at hvs
 have hxs : xs = ns.map (Value.int .u8):=by
  refine List.ext_getElem? fun j=>?_
  rw [List.getElem?_map]
  cases hj : ns[j]? with
  | none =>
   have : xs.length = ns.length:=by rw [hvs.1,List.length_map]
   rw [List.getElem?_eq_none (by rw [this];exact List.getElem?_eq_none_iff.1 hj)]
   rfl
  | some n =>
   obtain ⟨u,hu,hr⟩:=hvs.at_ (j:=j) (c:=.int .u8 n) (by rw [List.getElem?_map,hj];rfl)
   rw [hu,hr.int_inv]
   rfl
 have hstr : strAV (ns.map (AV.int .u8)) = ns.map fun n=>UInt8.ofNat n.toNat:=by
  unfold strAV;rw [List.map_map];rfl
 have hrun : (Conv.bytesToString (.slice A (ns.map (AV.int .u8)).length c)).run P w = .ok (.string ⟨(strAV (ns.map (AV.int .u8))).toArray⟩) w:=by
  rw [hstr]
  cases ns with
  | nil =>
   cases A with
   | none=>simp [Conv.bytesToString,Sem.run_pure];rfl
   | some b =>
    have:=run_bytesToString (P:=P) w b 0 c [] (by simpa using run_loadCells_list (P:=P) w b [] (fun j v h=>by simp at h))
    exact this
  | cons n ns =>
   rw [hA (by simp)]
   have hl:=run_loadCells_list (P:=P) w ad xs hxc
   rw [hxs] at hl
   have:=run_bytesToString (P:=P) w ad (n :: ns).length c (n :: ns) (by simpa using hl)
   rw [List.length_map,this]
   have hp:=push_all (n :: ns) []
   rw [List.nil_append] at hp
   exact congrArg (fun z=>Result.ok (Value.string z) w) hp
 have hexec : (execOp a.eval o).run P w = .ok (.value (.string ⟨(strAV (ns.map (AV.int .u8))).toArray⟩)) w:=by
  have hc : (convert src dst (a.eval x)).run P w = .ok (.string ⟨(strAV (ns.map (AV.int .u8))).toArray⟩) w:=by
   rw [he]
   unfold convert
   simp only [Sem.run_bind,run_underlying hs,run_underlying hd,Result.andThen_ok]
   cases A <;> simp only [run_underlying hub,Result.andThen_ok,hrun]
  simp only [execOp,ho,Sem.run_bind,Sem.run_pure,Result.andThen_ok,hc]
 exact wp_value hexec (hK _ _ _ hy ⟨S,β,og,hR.put o.dst (.str _ _),hO⟩)
end ops
end Go.Ev
