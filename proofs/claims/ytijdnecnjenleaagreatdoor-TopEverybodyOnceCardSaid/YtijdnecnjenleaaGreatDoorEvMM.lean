/-
 The operations on maps.
-/
import Derived.Test.YtijdnecnjenleaaGreatDoorEvMB
import Derived.RangeFuncRecord
import Derived.Laws.IdiomStrings
import Derived.Laws.Cover4
import Derived.MapKept

namespace Go.Ev
open Go.RowKit
theorem rens_at (m : Nat → Option Nat) : ∀ (cs : List AV) (j : Nat) (c : AV),(AV.rens m cs)[j]? = some c → ∃ c',cs[j]? = some c' ∧ c = c'.ren m:=by
 intro cs
 induction cs with
 | nil=>intro j c hc;simp [AV.rens] at hc
 | cons x cs ih =>
  intro j c hc
  cases j with
  | zero=>simp [AV.rens] at hc;exact ⟨x,rfl,hc.symm⟩
  | succ j=>simp only [AV.rens,List.getElem?_cons_succ] at hc;obtain ⟨c',h1,h2⟩:=ih j c hc;exact ⟨c',by simpa using h1,h2⟩
theorem rens_length (m : Nat → Option Nat) : ∀ cs : List AV,(AV.rens m cs).length = cs.length:=by
 intro cs
 induction cs with
 | nil=>rfl
 | cons x cs ih=>simp [AV.rens,ih]
theorem ren_rel {w : World} {S : Nat → Prop} {m : Nat → Option Nat} {β : Bet} {v : AV} {u : Value} (h : VRel w S β v u) : ∀ {β' : Bet},(∀ id x j,β id = some x → m id = some j → β' j = some x) → VRel w S β' (v.ren m) u:=by
 induction h with
 | unk β v=>intro β' _;exact .unk _ v
 | undef=>intro β' _;exact .undef _
 | int β k n=>intro β' _;exact .int _ k n
 | bool β b=>intro β' _;exact .bool _ b
 | ubool β b=>intro β' _;exact .ubool _ b
 | nl β v h=>intro β' _;exact .nl _ v h
 | str β s=>intro β' _;exact .str _ s
 | agg β cs vs hl h1 _ ih =>
  intro β' hm
  refine .agg _ _ vs (by rw [rens_length];exact hl) h1 fun j c u hc hu=>?_
  obtain ⟨c',hc',rfl⟩:=rens_at m cs j c hc
  exact ih j c' u hc' hu hm
 | tup β cs vs hl _ ih =>
  intro β' hm
  refine .tup _ _ vs (by rw [rens_length];exact hl) fun j c u hc hu=>?_
  obtain ⟨c',hc',rfl⟩:=rens_at m cs j c hc
  exact ih j c' u hc' hu hm
 | slv β s es A c a xs hs hc hm hA hl h1 hx hh _=>intro β' _;exact .slv _ s es A c a xs hs hc hm hA hl h1 hx hh
 | slz β s A=>intro β' _;exact .slz _ s A
 | eref β s es i off a xs hi hs hSa hl h1 hx hh _=>intro β' _;exact .eref _ s es i off a xs hi hs hSa hl h1 hx hh
 | ref β cs a xs hSa hl h1 hx hh _=>intro β' _;exact .ref _ cs a xs hSa hl h1 hx hh
 | ifr β t cs v hh _=>intro β' _;exact .ifr _ t cs v hh
 | nsl=>intro β' _;exact .nsl _
 | mpv β es vs hl hh _=>intro β' _;exact .mpv _ es vs hl hh
 | ptr β id off g wd hbt =>
  intro β' hm
  simp only [AV.ren]
  split
  ·rename_i j hj;exact .ptr _ j off g wd (hm _ _ _ hbt hj)
  ·exact .unk _ _
 | eptr β id i off g n c wd o hbt =>
  intro β' hm
  simp only [AV.ren]
  split
  ·rename_i j hj;exact .eptr _ j i off g n c wd o (hm _ _ _ hbt hj)
  ·exact .unk _ _
 | own β id v wd hbt =>
  intro β' hm
  simp only [AV.ren]
  split
  ·rename_i j hj;exact .own _ j v wd (hm _ _ _ hbt hj)
  ·exact .unk _ _
 | sub β id lo len A n c wd hbt =>
  intro β' hm
  simp only [AV.ren]
  split
  ·rename_i j hj;exact .sub _ j lo len A n c wd (hm _ _ _ hbt hj)
  ·exact .unk _ _
 | fn β f cs vs hl _ ih =>
  intro β' hm
  refine .fn _ f _ vs (by rw [rens_length];exact hl) fun j c u hc hu=>?_
  obtain ⟨c',hc',rfl⟩:=rens_at m cs j c hc
  exact ih j c' u hc' hu hm
theorem rens_rel {w : World} {S : Nat → Prop} {m : Nat → Option Nat} {β β' : Bet} (hm : ∀ id x j,β id = some x → m id = some j → β' j = some x) {cs : List AV} {vs : List Value} (h : VRels w S β cs vs) : VRels w S β' (AV.rens m cs) vs:=by
 refine ⟨by rw [rens_length];exact h.1,fun j c u hc hu=>?_⟩
 obtain ⟨c',hc',rfl⟩:=rens_at m cs j c hc
 exact ren_rel (h.2 j c' u hc' hu) hm
theorem RowRel.ren {w : World} {S B B' : Nat → Prop} {β β' : Bet} {m : Nat → Option Nat} {id id' : Nat} {o : Option Nat} {r : Row} (h : RowRel w S B β id o r) (hm : ∀ id x j,β id = some x → m id = some j → β' j = some x) (hid : ∀ x,β id = some x → β' id' = some x) (hB : ∀ g,o = some g → ¬ B g → ¬ B' g) :
  RowRel w S B' β' id' o (r.ren m):=by
 cases r with
 | box imm cs =>
  obtain ⟨g,vs,t,ho,hb,hh,hv,hi,hj,hBg⟩:=h
  exact ⟨g,vs,t,ho,hid _ hb,hh,rens_rel hm hv,hi,hj,hB g ho hBg⟩
 | arr imm s e es csp =>
  obtain ⟨hp,v,sp,xs,hsh,hcs,hb,h1,hv,hor⟩:=h
  refine ⟨hp,v,sp,xs,hsh,hcs,hid _ hb,h1,hv,?_⟩
  rcases hor with h | ⟨g,ps,ho,hvv,hBg,rest⟩
  ·exact .inl h
  ·exact .inr ⟨g,ps,ho,hvv,hB g ho hBg,rest⟩
 | foc imm s e pre cs post =>
  obtain ⟨hp,hcl,g,ps,sp,xs,us,ys,h1,h2,ho,hb,h3,vx,vu,vy,hBg,rest⟩:=h
  exact ⟨hp,by rw [rens_length];exact hcl,g,ps,sp,xs,us,ys,h1,h2,ho,hid _ hb,h3,vx,rens_rel hm vu,vy,hB g ho hBg,rest⟩
theorem RowRel.forget {w : World} {S B : Nat → Prop} {β : Bet} {id : Nat} {o : Option Nat} {r : Row} (h : RowRel w S B β id o r) : RowRel w S B β id o r.forget:=by
 cases r with
 | box imm cs=>exact h
 | arr imm s e es csp =>
  obtain ⟨hp,v,sp,xs,hsh,hcs,rest⟩:=h
  exact ⟨hp,v,sp,xs,hsh,(fun c h=>by cases h),rest⟩
 | foc imm s e pre cs post=>exact h
theorem RowRel.place {w : World} {S B : Nat → Prop} {β : Bet} {id : Nat} {o : Option Nat} {r : Row} (h : RowRel w S B β id o r) : (∃ x,β id = some x) ∧ ∀ g,o = some g → ¬ B g:=by
 cases r with
 | box imm cs =>
  obtain ⟨g,vs,t,ho,hb,hh,hv,hi,hj,hBg⟩:=h
  exact ⟨⟨_,hb⟩,fun g' hg'=>by rw [ho] at hg';cases hg';exact hBg⟩
 | arr imm s e es csp =>
  obtain ⟨hp,v,sp,xs,hsh,hcs,hb,h1,hv,hor⟩:=h
  refine ⟨⟨_,hb⟩,fun g' hg'=>?_⟩
  rcases hor with ⟨_,_,ho,_⟩ | ⟨g,ps,ho,hvv,hBg,rest⟩
  ·rw [ho] at hg';cases hg'
  ·rw [ho] at hg';cases hg';exact hBg
 | foc imm s e pre cs post =>
  obtain ⟨hp,hcl,g,ps,sp,xs,us,ys,h1,h2,ho,hb,h3,vx,vu,vy,hBg,rest⟩:=h
  exact ⟨⟨_,hb⟩,fun g' hg'=>by rw [ho] at hg';cases hg';exact hBg⟩
def Row.imm : Row → Bool
 | .box i _=>i
 | .arr i _ _ _ _=>i
 | .foc i _ _ _ _ _=>i
theorem RowRel.free {w : World} {S B : Nat → Prop} {β : Bet} {id : Nat} {o : Option Nat} {r : Row} (h : RowRel w S B β id o r) (hi : r.imm = false) : ∀ g,o = some g → ¬ S g:=by
 cases r with
 | box imm cs =>
  obtain ⟨g,vs,t,ho,hb,hh,hv,hi',hj,hBg⟩:=h
  intro g' hg';rw [ho] at hg';cases hg';exact hi' hi
 | arr imm s e es csp =>
  obtain ⟨hp,v,sp,xs,hsh,hcs,hb,h1,hv,hor⟩:=h
  intro g' hg'
  rcases hor with ⟨_,_,ho,_⟩ | ⟨g,ps,ho,hvv,hBg,_,_,hi',_⟩
  ·rw [ho] at hg';cases hg'
  ·rw [ho] at hg';cases hg';exact hi' hi
 | foc imm s e pre cs post =>
  obtain ⟨hp,hcl,g,ps,sp,xs,us,ys,h1,h2,ho,hb,h3,vx,vu,vy,hBg,hh,hm,hi',_⟩:=h
  intro g' hg'
  rw [ho] at hg'
  cases hg'
  exact hi' hi
section opn
variable {w : World} {S B : Nat → Prop} {β : Bet} {og : Nat → Option Nat} {rows : List (Nat × Row)}
theorem purL_soundX {f : AV → Option (AV × List Nat)} (hf : ∀ v v' ids u,f v = some (v',ids) → VRel w S β v u → VRel w (With S og ids) β v' u) :
  ∀ (cs : List AV) (cs' : List AV) (ids : List Nat) {vs : List Value},purL f cs = some (cs',ids) → VRels w S β cs vs → VRels w (With S og ids) β cs' vs
 | [],cs',ids,vs,h,hv=>by simp [purL] at h;obtain ⟨rfl,rfl⟩:=h;rw [hv.inv_nil];exact VRels.nil
 | c :: cs,cs',ids,vs,h,hv=>by
  simp only [purL] at h
  cases hc : f c with
  | none=>simp [hc] at h
  | some q =>
   cases hq : purL f cs with
   | none=>simp [hc,hq] at h
   | some q' =>
    simp [hc,hq] at h
    obtain ⟨rfl,rfl⟩:=h
    obtain ⟨u,us,rfl,hu,hus⟩:=hv.inv
    exact VRels.cons ((hf c q.1 q.2 u hc hu).keepS fun b=>With.sub (fun i hi=>by simp [hi])) ((purL_soundX hf cs q'.1 q'.2 hq hus).keepS fun b=>With.sub (fun i hi=>by simp [hi]))
theorem opn1_sound (hrow : ∀ id r,lookup rows id = some r → RowRel w S B β id (og id) r) : ∀ (n : Nat) (v v' : AV) (ids : List Nat) (u : Value),opn1 rows n v = some (v',ids) → VRel w S β v u → VRel w (With S og ids) β v' u:=by
 intro n
 induction n with
 | zero=>intro v v' ids u h;simp [opn1] at h
 | succ n ih =>
  intro v v' ids u h hv
  have hL:=purL_soundX (w:=w) (S:=S) (β:=β) (og:=og) (f:=opn1 rows n) ih
  have pure : ∀ x,pur1 rows depth x = some (v',ids) → VRel w S β x u → VRel w (With S og ids) β v' u:=fun x hx hv =>
   (pur1_sound (w:=w) (S:=S) (B:=B) (β:=β) (og:=og) (rows:=rows) hrow depth _ _ _ _ hx hv).mono (fun _ h=>h) (fun _ _=>rfl) (fun _ _ h=>by cases h)
  cases v <;> simp only [opn1] at h
  case ptr i off =>
   split at h
   ·cases h;exact hv.keepS fun _=>With.left
   ·exact pure _ h hv
   ·cases h
  case eptr i j off =>
   split at h
   ·cases h;exact hv.keepS fun _=>With.left
   ·exact pure _ h hv
   ·cases h
  case own i =>
   split at h
   ·cases h;exact hv.keepS fun _=>With.left
   ·exact pure _ h hv
   ·cases h;exact hv.keepS fun _=>With.left
   ·exact pure _ h hv
   ·cases h;exact hv.keepS fun _=>With.left
   ·cases h
  case sub i lo m =>
   split at h
   ·cases h;exact hv.keepS fun _=>With.left
   ·exact pure _ h hv
   ·cases h
  case agg cs =>
   cases hp : purL (opn1 rows n) cs with
   | none=>simp [hp] at h
   | some q =>
    simp [hp] at h
    obtain ⟨rfl,rfl⟩:=h
    cases hv with
    | agg _ _ vs hl h1 hh =>
     have:=hL cs q.1 q.2 hp ⟨hl,hh⟩
     exact .agg _ _ _ this.1 h1 this.2
  case tup cs =>
   cases hp : purL (opn1 rows n) cs with
   | none=>simp [hp] at h
   | some q =>
    simp [hp] at h
    obtain ⟨rfl,rfl⟩:=h
    cases hv with
    | tup _ _ vs hl hh =>
     have:=hL cs q.1 q.2 hp ⟨hl,hh⟩
     exact .tup _ _ _ this.1 this.2
  case fn f cs =>
   cases hp : purL (opn1 rows n) cs with
   | none=>simp [hp] at h
   | some q =>
    simp [hp] at h
    obtain ⟨rfl,rfl⟩:=h
    cases hv with
    | fn _ _ _ vs hl hh =>
     have:=hL cs q.1 q.2 hp ⟨hl,hh⟩
     exact .fn _ _ _ _ this.1 this.2
  all_goals (cases h;exact hv.keepS fun _=>With.left)
theorem opn1_in : ∀ (n : Nat) (v : AV) (p : AV × List Nat),opn1 rows n v = some p → ∀ id ∈ p.2,∃ r,lookup rows id = some r:=by
 intro n
 induction n with
 | zero=>intro v p h;simp [opn1] at h
 | succ n ih =>
  intro v p h id hid
  have hL:=purL_in (rows:=rows) (f:=opn1 rows n) ih
  have pure : ∀ x,pur1 rows depth x = some p → ∃ r,lookup rows id = some r:=fun x hx=>pur1_in _ _ _ hx id hid
  cases v <;> simp only [opn1] at h
  case ptr i off =>
   split at h
   ·cases h;simp at hid
   ·exact pure _ h
   ·cases h
  case eptr i j off =>
   split at h
   ·cases h;simp at hid
   ·exact pure _ h
   ·cases h
  case own i =>
   split at h
   ·cases h;simp at hid
   ·exact pure _ h
   ·cases h;simp at hid
   ·exact pure _ h
   ·cases h;simp at hid
   ·cases h
  case sub i lo m =>
   split at h
   ·cases h;simp at hid
   ·exact pure _ h
   ·cases h
  case agg cs =>
   cases hp : purL (opn1 rows n) cs with
   | none=>simp [hp] at h
   | some q=>simp [hp] at h;subst h;exact hL cs q hp id hid
  case tup cs =>
   cases hp : purL (opn1 rows n) cs with
   | none=>simp [hp] at h
   | some q=>simp [hp] at h;subst h;exact hL cs q hp id hid
  case fn f cs =>
   cases hp : purL (opn1 rows n) cs with
   | none=>simp [hp] at h
   | some q=>simp [hp] at h;subst h;exact hL cs q hp id hid
  all_goals (cases h;simp at hid)
theorem rowsAt_in : ∀ (ids : List Nat) (q : List Row × List Nat),rowsAt rows ids = some q → ∀ id ∈ q.2,∃ r,lookup rows id = some r
 | [],q,h,id,hid=>by simp [rowsAt] at h;subst h;simp at hid
 | i :: is,q,h,id,hid=>by
  simp only [rowsAt] at h
  split at h
  ·cases h
  ·rename_i q' hq
   split at h
   ·rename_i cs hl
    split at h
    ·rename_i p hp
     cases h
     simp only [List.mem_append] at hid
     rcases hid with hid | hid
     ·exact purL_in (rows:=rows) (opn1_in depth) _ _ hp id hid
     ·exact rowsAt_in is q' hq id hid
    ·cases h
   ·cases h
    exact rowsAt_in is q' hq id hid
   ·split at h
    ·rename_i p hp
     cases h
     simp only [List.mem_append] at hid
     rcases hid with hid | hid
     ·exact purL_in (rows:=rows) (opn1_in depth) _ _ hp id hid
     ·exact rowsAt_in is q' hq id hid
    ·cases h
   ·cases h
theorem rowsAt_sound (hrow : ∀ id r,lookup rows id = some r → RowRel w S B β id (og id) r) (inj : ∀ id id' g,og id = some g → og id' = some g → id = id') : ∀ (ids : List Nat) (rs : List Row) (fz fz' : List Nat),rowsAt rows ids = some (rs,fz) → (∀ i ∈ fz,i ∈ fz') → (∀ i ∈ fz',i ∉ ids) →
  rs.length = ids.length ∧ ∀ (j i : Nat),ids[j]? = some i → ∃ r r0,rs[j]? = some r ∧ lookup rows i = some r0 ∧ r0.imm = false ∧ RowRel w (With S og fz') B β i (og i) r ∧ r.imm = false
 | [],rs,fz,fz',h,_,_=>by simp [rowsAt] at h;obtain ⟨rfl,rfl⟩:=h;exact ⟨rfl,fun j i hj=>by simp at hj⟩
 | i :: is,rs,fz,fz',h,hfz,hd=>by
  have key : ∀ (r : Row),lookup rows i = some r → r.imm = false → RowRel w (With S og fz') B β i (og i) r:=fun r hr him =>
   (hrow i r hr).keep (fun _ _ h=>h) (fun _=>With.left) (fun g hg hs=>by
    rcases hs with hs | ⟨i',hi',hg'⟩
    ·exact hs
    ·exact absurd (inj i i' g hg hg' ▸ hi' : i ∈ fz') (fun h=>hd i h (by simp))) (fun _ _=>rfl) (fun _ _=>rfl)
  simp only [rowsAt] at h
  split at h
  ·cases h
  ·rename_i q' hq
   obtain ⟨rs',fz2⟩:=q'
   have step : ∀ (r r0 : Row),lookup rows i = some r0 → r0.imm = false → RowRel w (With S og fz') B β i (og i) r → r.imm = false → rs = r :: rs' → (∀ x ∈ fz2,x ∈ fz') → rs.length = (i :: is).length ∧ ∀ (j i' : Nat),(i :: is)[j]? = some i' → ∃ r r0,rs[j]? = some r ∧ lookup rows i' = some r0 ∧ r0.imm = false ∧ RowRel w (With S og fz') B β i' (og i') r ∧ r.imm = false:=by
    intro r r0 hl h0 hr hi he hf2
    subst he
    obtain ⟨i1,i2⟩:=rowsAt_sound hrow inj is rs' fz2 fz' hq hf2 (fun x hx hin=>hd x hx (by simp [hin]))
    refine ⟨by simp [i1],fun j i' hj=>?_⟩
    cases j with
    | zero=>simp at hj;subst hj;exact ⟨r,r0,rfl,hl,h0,hr,hi⟩
    | succ j=>simp at hj;simpa using i2 j i' hj
   split at h
   ·rename_i cs hl
    split at h
    ·rename_i p hp
     cases h
     refine step _ _ hl rfl ?_ rfl rfl (fun x hx=>hfz x (by simp [hx]))
     obtain ⟨g,vs,t,ho,hb,hh,hv,hi,hj,hBg⟩:=hrow i _ hl
     obtain ⟨_,_,_,ho',_,_,_,hi',_,_⟩:=key _ hl rfl
     rw [ho] at ho'
     cases ho'
     obtain ⟨p1,p2⟩:=p
     exact ⟨g,vs,t,ho,hb,hh,(purL_soundX (opn1_sound hrow depth) cs p1 p2 hp hv).keepS fun b=>With.sub (fun x hx=>hfz x (by simp [hx])),hi',(fun h=>by cases h),hBg⟩
    ·cases h
   ·rename_i s e es sp hl
    cases h
    exact step _ _ hl rfl (key _ hl rfl) rfl rfl hfz
   ·rename_i s e pre cs post hl
    split at h
    ·rename_i p hp
     cases h
     refine step _ _ hl rfl ?_ rfl rfl (fun x hx=>hfz x (by simp [hx]))
     obtain ⟨q1,q2,g,ps,sp,xs,us,ys,h1,h2,ho,hb,h3,vx,vu,vy,hBg,hh,hm,hi,hj⟩:=hrow i _ hl
     obtain ⟨_,_,_,_,_,_,_,_,_,_,ho',_,_,_,_,_,_,_,_,hi',_⟩:=key _ hl rfl
     rw [ho] at ho'
     cases ho'
     have hlen:=purL_length cs p hp
     obtain ⟨p1,p2⟩:=p
     exact ⟨q1,hlen.trans q2,g,ps,sp,xs,us,ys,h1,h2,ho,hb,h3,vx.keepS fun b=>With.left,(purL_soundX (opn1_sound hrow depth) cs p1 p2 hp vu).keepS fun b=>With.sub (fun x hx=>hfz x (by simp [hx])),vy.keepS fun b=>With.left,hBg,hh,hm,hi',(fun h=>by cases h)⟩
    ·cases h
   ·cases h
end opn
theorem idx_some : ∀ (l : List Nat) (i j : Nat),idx l i = some j → l[j]? = some i
 | [],i,j,h=>by simp [idx] at h
 | x :: l,i,j,h=>by
  simp only [idx] at h
  split at h
  ·rename_i e;cases h;simp [e]
  ·cases hi : idx l i with
   | none=>simp [hi] at h
   | some k=>simp [hi] at h;subst h;simpa using idx_some l i k hi
theorem nodupB_spec : ∀ (l : List Nat),nodupB l = true → ∀ (j j' i : Nat),l[j]? = some i → l[j']? = some i → j = j'
 | [],_,j,j',i,h,_=>by simp at h
 | x :: l,h,j,j',i,hj,hj'=>by
  simp only [nodupB,Bool.and_eq_true,Bool.not_eq_true'] at h
  have hx : x ∉ l:=by simpa using h.1
  cases j <;> cases j' <;> simp at hj hj'
  ·rfl
  ·subst hj;exact absurd (List.mem_of_getElem? hj') hx
  ·subst hj';exact absurd (List.mem_of_getElem? hj) hx
  ·rw [nodupB_spec l h.2 _ _ i hj hj']
theorem lookup_zipIds : ∀ (rs : List Row) (b id : Nat) (r : Row),lookup (zipIds b rs) id = some r → b ≤ id ∧ rs[id - b]? = some r
 | [],b,id,r,h=>by simp [zipIds,lookup] at h
 | x :: rs,b,id,r,h=>by
  simp only [zipIds,lookup] at h
  split at h
  ·rename_i e;cases h;subst e;simp
  ·obtain ⟨h1,h2⟩:=lookup_zipIds rs (b + 1) id r h
   refine ⟨by omega,?_⟩
   rw [show id - b = (id - (b + 1)) + 1 from by omega]
   simpa using h2
theorem lookup_foldl_set : ∀ (l : List (Nat × Row)) (rows : List (Nat × Row)) (id : Nat) (r : Row),lookup (l.foldl (fun rs p=>setRow rs p.1 p.2) rows) id = some r → (id,r) ∈ l ∨ ((∀ p ∈ l,p.1 ≠ id) ∧ lookup rows id = some r)
 | [],rows,id,r,h=>.inr ⟨by simp,h⟩
 | (i,x) :: l,rows,id,r,h=>by
  simp only [List.foldl_cons] at h
  rcases lookup_foldl_set l _ id r h with h | ⟨h1,h2⟩
  ·exact .inl (by simp [h])
  ·rw [lookup_setRow] at h2
   split at h2
   ·rename_i e;cases h2;subst e;exact .inl (by simp)
   ·rename_i e
    refine .inr ⟨fun p hp=>?_,h2⟩
    rcases List.mem_cons.1 hp with rfl | hp
    ·exact fun e'=>e e'.symm
    ·exact h1 p hp
theorem lookup_foldl_del : ∀ (l : List Nat) (rows : List (Nat × Row)) (id : Nat) (r : Row),lookup (l.foldl delRow rows) id = some r → id ∉ l ∧ lookup rows id = some r
 | [],rows,id,r,h=>⟨by simp,h⟩
 | i :: l,rows,id,r,h=>by
  simp only [List.foldl_cons] at h
  obtain ⟨h1,h2⟩:=lookup_foldl_del l _ id r h
  rw [lookup_delRow] at h2
  split at h2
  ·cases h2
  ·rename_i e;exact ⟨by simp only [List.mem_cons,not_or];exact ⟨e,h1⟩,h2⟩
theorem delsOf_mem : ∀ (ids : List Nat) (rs : List (Option Row)) (j i : Nat),ids[j]? = some i → rs[j]? = some none → i ∈ delsOf ids rs
 | [],_,j,i,h,_=>by simp at h
 | _ :: _,[],j,i,_,h=>by simp at h
 | x :: ids,y :: rs,j,i,h,h'=>by
  cases j with
  | zero=>simp at h h';subst h;subst h';simp [delsOf]
  | succ j =>
   have:=delsOf_mem ids rs j i (by simpa using h) (by simpa using h')
   cases y <;> simp [delsOf,this]
theorem modsOf_mem (m : Nat → Option Nat) : ∀ (ids : List Nat) (rs : List (Option Row)) (j i : Nat) (r : Row),ids[j]? = some i → rs[j]? = some (some r) → (i,r.ren m) ∈ modsOf m ids rs
 | [],_,j,i,r,h,_=>by simp at h
 | _ :: _,[],j,i,r,_,h=>by simp at h
 | x :: ids,y :: rs,j,i,r,h,h'=>by
  cases j with
  | zero=>simp at h h';subst h;subst h';simp [modsOf]
  | succ j =>
   have:=modsOf_mem m ids rs j i r (by simpa using h) (by simpa using h')
   cases y <;> simp [modsOf,this]
theorem modsOf_inv (m : Nat → Option Nat) : ∀ (ids : List Nat) (rs : List (Option Row)) (i : Nat) (r : Row),(i,r) ∈ modsOf m ids rs → ∃ (j : Nat) (r0 : Row),ids[j]? = some i ∧ rs[j]? = some (some r0) ∧ r = r0.ren m
 | [],_,i,r,h=>by simp [modsOf] at h
 | _ :: _,[],i,r,h=>by simp [modsOf] at h
 | x :: ids,y :: rs,i,r,h=>by
  cases y with
  | none =>
   simp only [modsOf] at h
   obtain ⟨j,r0,h1,h2,h3⟩:=modsOf_inv m ids rs i r h
   exact ⟨j + 1,r0,by simpa using h1,by simpa using h2,h3⟩
  | some z =>
   simp only [modsOf,List.mem_cons,Prod.mk.injEq] at h
   rcases h with ⟨rfl,rfl⟩ | h
   ·exact ⟨0,z,rfl,rfl,rfl⟩
   ·obtain ⟨j,r0,h1,h2,h3⟩:=modsOf_inv m ids rs i r h
    exact ⟨j + 1,r0,by simpa using h1,by simpa using h2,h3⟩
theorem newsOf_inv (m : Nat → Option Nat) (site : Nat) : ∀ (rs : List Row) (b i : Nat) (r : Row),(i,r) ∈ newsOf m site b rs → ∃ (j : Nat) (r0 : Row),i = newId site (b + j) ∧ rs[j]? = some r0 ∧ r = r0.ren m
 | [],b,i,r,h=>by simp [newsOf] at h
 | x :: rs,b,i,r,h=>by
  simp only [newsOf,List.mem_cons,Prod.mk.injEq] at h
  rcases h with ⟨rfl,rfl⟩ | h
  ·exact ⟨0,x,rfl,rfl,rfl⟩
  ·obtain ⟨j,r0,h1,h2,h3⟩:=newsOf_inv m site rs (b + 1) i r h
   exact ⟨j + 1,r0,by rw [h1];congr 1;omega,by simpa using h2,h3⟩
theorem newsOf_keys (m : Nat → Option Nat) (site : Nat) : ∀ (rs : List Row) (b j : Nat),j < rs.length → newId site (b + j) ∈ (newsOf m site b rs).map (·.1)
 | [],b,j,h=>by simp at h
 | x :: rs,b,j,h=>by
  cases j with
  | zero=>simp [newsOf]
  | succ j =>
   have:=newsOf_keys m site rs (b + 1) j (by simpa using h)
   rw [show b + 1 + j = b + (j + 1) from by omega] at this
   simp only [newsOf,List.map_cons,List.mem_cons]
   exact .inr this
end Go.Ev


namespace Go.Ev
open Go.RowKit
structure Heap (w : World) (S B : Nat → Prop) (β : Bet) (og : Nat → Option Nat) (rows : List (Nat × Row)) : Prop where
 row : ∀ id r,lookup rows id = some r → RowRel w S B β id (og id) r
 inj : ∀ id id' g,og id = some g → og id' = some g → id = id'
 lt : ∀ id g,og id = some g → g < w.heap.size
 one : ∀ id x,β id = some x → x.1.oneCell' = true
 Slt : ∀ b,S b → b < w.heap.size
 Ble : ∀ b,B b → b < w.heap.size
structure After (w : World) (S B : Nat → Prop) (β : Bet) (prow : List (Option Row)) (nrow : List Row) (v : AV) (u : Value) (w' : World) (S' : Nat → Prop) (β' : Bet) (og' : Nat → Option Nat) : Prop where
 kept : Kept B w w'
 sub : ∀ b,S b → S' b
 sin : ∀ b,S' b → S b ∨ ¬ B b
 val : VRel w' S' β' v u
 prow : ∀ (j : Nat) (r : Row),prow[j]? = some (some r) → RowRel w' S' B β' (PID + j) (og' (PID + j)) r
 nrow : ∀ (j : Nat) (r : Row),nrow[j]? = some r → RowRel w' S' B β' (RID + j) (og' (RID + j)) r
 inj : ∀ id id' g,og' id = some g → og' id' = some g → id = id'
 lt : ∀ id g,og' id = some g → g < w'.heap.size
 one : ∀ id x,β' id = some x → x.1.oneCell' = true
 Slt : ∀ b,S' b → b < w'.heap.size
 bet : ∀ id x,id < RID → β' id = some x → β id = some x
def XOK (P : Program) (f : FuncId) (F : SummX) : Prop :=
 ∀ (ρ : Type) (w : World) (S B : Nat → Prop) (β : Bet) (og : Nat → Option Nat) (avs : List AV) (rows : List Row) (args : List Value) (k : AV → List (Option Row) → List Row → Option ρ) (r : ρ),Heap w S B β og (zipIds PID rows) → (∀ b,S b → B b) ∧ Glb B w → (∀ id x,β id = some x → PID ≤ id ∧ id < PID + rows.length) → VRels w S β avs args → F ρ avs rows k = some r →
  Goes P f args.toArray w fun e w'=>∃ u v prow nrow S' β' og',e = .returned u ∧ k v prow nrow = some r ∧ After w S B β prow nrow v u w' S' β' og'
def XNat (F : SummX) : Prop:=∀ (ρ : Type) (avs : List AV) (rows : List Row) (k : AV → List (Option Row) → List Row → Option ρ),F ρ avs rows k = (F (AV × List (Option Row) × List Row) avs rows fun v p n=>some (v,p,n)).bind fun x=>k x.1 x.2.1 x.2.2
def openBet {α : Type} (f : Nat → Option α) (ids : List Nat) (id : Nat) : Option α:=if PID ≤ id then (ids[id - PID]?).bind f else none
theorem openBet_at {α : Type} (f : Nat → Option α) {ids : List Nat} {j i : Nat} (h : ids[j]? = some i) : openBet f ids (PID + j) = f i:=by
 unfold openBet
 rw [if_pos (by omega),show PID + j - PID = j from by omega,h]
 rfl
theorem openBet_inv {α : Type} {f : Nat → Option α} {ids : List Nat} {id : Nat} {x : α} (h : openBet f ids id = some x) : ∃ j i,id = PID + j ∧ ids[j]? = some i ∧ f i = some x:=by
 unfold openBet at h
 split at h
 ·rename_i hp
  cases hi : ids[id - PID]? with
  | none=>simp [hi] at h
  | some i=>exact ⟨id - PID,i,by omega,hi,by simpa [hi] using h⟩
 ·cases h
section ops
variable {R : Option Nat} {ρ : Type} {P : Program} {w0 w : World} {S0 S : Nat → Prop} {B : Ctx} {β : Bet} {og : Nat → Option Nat} {st : St} {a : Act} {o : Oper} {site : Nat} {y : Eff → Option ρ} {r : ρ}
 {K : Act → World → Prop} {Q : Exit → Act → World → Prop}
def isNew (site n id : Nat) : Option Nat:=if id = newId site ((id - site) / 4294967296 - 1) then (if (id - site) / 4294967296 - 1 < n then some ((id - site) / 4294967296 - 1) else none) else none
theorem isNew_at {site n j : Nat} (h : j < n) : isNew site n (newId site j) = some j:=by
 have e : (newId site j - site) / 4294967296 - 1 = j:=by unfold newId;omega
 unfold isNew
 rw [e]
 simp [h]
theorem isNew_inv {site n id j : Nat} (h : isNew site n id = some j) : id = newId site j ∧ j < n:=by
 unfold isNew at h
 split at h
 ·rename_i e
  split at h
  ·rename_i hl;cases h;exact ⟨e,hl⟩
  ·cases h
 ·cases h
theorem after_rel' (hR : Rel w S B β og st a) (hO : Out w0 S0 B w S) {ids : List Nat} (hnd : ∀ (j j' i : Nat),ids[j]? = some i → ids[j']? = some i → j = j') (himm : ∀ i ∈ ids,∃ r,lookup st.rows i = some r ∧ r.imm = false) (hsm : ids.length ≤ 1000000)
  {prow : List (Option Row)} {nrow : List Row} {v : AV} {u : Value} {w' : World} {S' : Nat → Prop} {β' : Bet} {og' : Nat → Option Nat} (hlen : prow.length = ids.length) (dst : Option Tmp)
  (hA : After w S (fun b=>b < w.heap.size ∧ ∀ i ∈ ids,og i ≠ some b) (openBet β ids) prow nrow v u w' S' β' og')
  (hfr : ∀ p ∈ newsOf (back site ids nrow.length) site 0 nrow,p.1 ∉ st.used ∧ p.1 < PID) {rows' : List (Nat × Row)}
  (hrows : ∀ id r,lookup rows' id = some r → (id,r) ∈ newsOf (back site ids nrow.length) site 0 nrow ∨ (id,r) ∈ modsOf (back site ids nrow.length) ids prow ∨ (id ∉ delsOf ids prow ∧ (∀ p ∈ modsOf (back site ids nrow.length) ids prow,p.1 ≠ id) ∧ lookup st.rows id = some r)) :
  ∃ S2 β2 og2,Rel w' S2 B β2 og2 ⟨putTm st.tm dst (v.ren (back site ids nrow.length)),rows',(newsOf (back site ids nrow.length) site 0 nrow).map (·.1) ++ st.used⟩ (a.put dst u) ∧ Out w0 S0 B w' S2 ∧ ∀ id x,β id = some x → β2 id = some x:=by
 have hnew : ∀ j,j < nrow.length → newId site j ∉ st.used ∧ newId site j < PID:=fun j hj=>by
  have:=newsOf_keys (back site ids nrow.length) site nrow 0 j hj
  rw [Nat.zero_add] at this
  obtain ⟨p,hp,he⟩:=List.mem_map.1 this
  rw [← he]
  exact hfr p hp
 have hisused : ∀ id x,β id = some x → isNew site nrow.length id = none:=fun id x hx=>by
  cases hi : isNew site nrow.length id with
  | none=>rfl
  | some j =>
   obtain ⟨e,hj⟩:=isNew_inv hi
   exact absurd (by rw [← e];exact hR.used id x hx) (hnew j hj).1
 have hBB : ∀ b,B b → b < w.heap.size ∧ ∀ i ∈ ids,og i ≠ some b:=fun b hb=>⟨hR.Ble b hb,fun i hi hg=>by
  obtain ⟨r,hr,_⟩:=himm i hi
  exact (hR.row i r hr).place.2 b hg hb⟩
 have hSB : ∀ b,S b → b < w.heap.size ∧ ∀ i ∈ ids,og i ≠ some b:=fun b hb=>⟨hR.Slt b hb,fun i hi hg=>by
  obtain ⟨r,hr,hm⟩:=himm i hi
  exact (hR.row i r hr).free hm b hg hb⟩
 have hw : ∀ b,S b → w'.heap[b]? = w.heap[b]?:=fun b hb=>hA.kept.block b (hSB b hb)
 have hβ : ∀ id x,β id = some x → (match isNew site nrow.length id with | some j=>β' (RID + j) | none=>β id) = some x:=fun id x hx=>by
  rw [hisused id x hx];exact hx
 have hm : ∀ id x j,β' id = some x → back site ids nrow.length id = some j → (match isNew site nrow.length j with | some j=>β' (RID + j) | none=>β j) = some x:=fun id x j hx hj=>by
  unfold back at hj
  split at hj
  ·cases hj
  ·split at hj
   ·rename_i h1 h2
    have hlt : id < RID:=Nat.blt_eq ▸ h2
    obtain ⟨j',i,e1,e2,e3⟩:=openBet_inv (hA.bet id x hlt hx)
    have : id - PID = j':=by omega
    rw [this,e2] at hj
    cases hj
    exact hβ _ _ e3
   ·rename_i h1 h2
    split at hj
    ·rename_i h3
     cases hj
     have h3' : id - RID < nrow.length:=Nat.blt_eq ▸ h3
     rw [isNew_at h3']
     have h2' : ¬ id < RID:=fun h=>h2 (by rw [Nat.blt_eq];exact h)
     show β' (RID + (id - RID)) = some x
     rw [show RID + (id - RID) = id from by omega]
     exact hx
    ·cases hj
 have hog1 : ∀ j,j < nrow.length → (match isNew site nrow.length (newId site j) with | some j=>og' (RID + j) | none=>(match idx ids (newId site j) with | some j=>(match prow[j]? with | some (some _)=>og' (PID + j) | _=>none) | none=>og (newId site j))) = og' (RID + j):=fun j hj=>by rw [isNew_at hj]
 have hidx : ∀ j i,ids[j]? = some i → idx ids i = some j:=fun j i h=>by
  have aux : ∀ (l : List Nat) (j i : Nat),l[j]? = some i → ∃ j',idx l i = some j':=by
   intro l
   induction l with
   | nil=>intro j i h;simp at h
   | cons x l ih =>
    intro j i h
    by_cases e : i = x
    ·exact ⟨0,by simp [idx,e]⟩
    ·cases j with
     | zero=>simp at h;exact absurd h.symm e
     | succ j =>
      obtain ⟨j',hj'⟩:=ih j i (by simpa using h)
      exact ⟨j' + 1,by simp [idx,e,hj']⟩
  obtain ⟨j',hj'⟩:=aux ids j i h
  rw [hj',hnd j j' i h (idx_some ids i j' hj')]
 have hopn : ∀ j i,ids[j]? = some i → isNew site nrow.length i = none:=fun j i h=>by
  obtain ⟨r,hr,_⟩:=himm i (List.mem_of_getElem? h)
  obtain ⟨x,hx⟩:=(hR.row i r hr).place.1
  exact hisused i x hx
 have hog2 : ∀ j i r,ids[j]? = some i → prow[j]? = some (some r) → (match isNew site nrow.length i with | some j=>og' (RID + j) | none=>(match idx ids i with | some j=>(match prow[j]? with | some (some _)=>og' (PID + j) | _=>none) | none=>og i)) = og' (PID + j):=fun j i r h hp=>by
  rw [hopn j i h,hidx j i h]
  simp only [hp]
 have hog3 : ∀ id,isNew site nrow.length id = none → id ∉ ids → (match isNew site nrow.length id with | some j=>og' (RID + j) | none=>(match idx ids id with | some j=>(match prow[j]? with | some (some _)=>og' (PID + j) | _=>none) | none=>og id)) = og id:=fun id h hn=>by
  rw [h]
  cases hi : idx ids id with
  | none=>rfl
  | some j=>exact absurd (List.mem_of_getElem? (idx_some ids id j hi)) hn
 have hcl : ∀ id g,(match isNew site nrow.length id with | some j=>og' (RID + j) | none=>(match idx ids id with | some j=>(match prow[j]? with | some (some _)=>og' (PID + j) | _=>none) | none=>og id)) = some g →
   (∃ j,j < nrow.length ∧ id = newId site j ∧ og' (RID + j) = some g) ∨ (∃ j r,ids[j]? = some id ∧ prow[j]? = some (some r) ∧ og' (PID + j) = some g) ∨ (id ∉ ids ∧ og id = some g):=fun id g h=>by
  cases hi : isNew site nrow.length id with
  | some j =>
   rw [hi] at h
   obtain ⟨e,hj⟩:=isNew_inv hi
   exact .inl ⟨j,hj,e,h⟩
  | none =>
   rw [hi] at h
   cases hx : idx ids id with
   | some j =>
    rw [hx] at h
    have hj:=idx_some ids id j hx
    simp only at h
    split at h
    ·rename_i r hp;exact .inr (.inl ⟨j,r,hj,hp,h⟩)
    ·cases h
   | none =>
    rw [hx] at h
    refine .inr (.inr ⟨fun hin=>?_,h⟩)
    obtain ⟨j,hj,he⟩:=List.getElem_of_mem hin
    have:=hidx j id (by rw [List.getElem?_eq_getElem hj,he])
    rw [hx] at this
    cases this
 have hnB1 : ∀ j,j < nrow.length → ∀ g,og' (RID + j) = some g → ¬ (g < w.heap.size ∧ ∀ i ∈ ids,og i ≠ some g):=fun j hj g hg=>(hA.nrow j _ (List.getElem?_eq_getElem hj)).place.2 g hg
 have hnB2 : ∀ j r,prow[j]? = some (some r) → ∀ g,og' (PID + j) = some g → ¬ (g < w.heap.size ∧ ∀ i ∈ ids,og i ≠ some g):=fun j r hj g hg=>(hA.prow j r hj).place.2 g hg
 have hyB : ∀ id g,id ∉ ids → og id = some g → (g < w.heap.size ∧ ∀ i ∈ ids,og i ≠ some g):=fun id g hn hg=>⟨hR.lt id g hg,fun i hi hg'=>hn (hR.inj id i g hg hg' ▸ hi)⟩
 have hPR : PID + 1000000 < RID:=by decide
 refine ⟨S',fun id=>match isNew site nrow.length id with | some j=>β' (RID + j) | none=>β id,fun id=>match isNew site nrow.length id with | some j=>og' (RID + j) | none=>(match idx ids id with | some j=>(match prow[j]? with | some (some _)=>og' (PID + j) | _=>none) | none=>og id),⟨?_,by rw [Act.put_defers];exact hR.df,fun id r hr=>?_,fun id id' g hg hg'=>?_,fun id g hg=>?_,fun id x hx=>?_,fun id x hx=>?_,hA.Slt,fun b hb=>Nat.lt_of_lt_of_le (hR.Ble b hb) hA.kept.size,fun id x hp hx=>?_⟩,?_⟩
 ·exact tm_put (hR.tm.mono hA.sub hw hβ) dst (ren_rel hA.val hm)
 ·rcases hrows id r hr with h | h | ⟨h1,h2,h3⟩
  ·obtain ⟨j,r0,e1,e2,rfl⟩:=newsOf_inv _ _ _ _ _ _ h
   rw [Nat.zero_add] at e1
   subst e1
   have hj : j < nrow.length:=(List.getElem?_eq_some_iff.1 e2).1
   rw [hog1 j hj]
   refine (hA.nrow j r0 e2).ren hm (fun x hx=>?_) (fun g hg hn hb=>hn (hBB g hb))
   rw [isNew_at hj]
   exact hx
  ·obtain ⟨j,r0,e1,e2,rfl⟩:=modsOf_inv _ _ _ _ _ h
   rw [hog2 j id r0 e1 e2]
   refine (hA.prow j r0 e2).ren hm (fun x hx=>?_) (fun g hg hn hb=>hn (hBB g hb))
   have hjl : j < ids.length:=(List.getElem?_eq_some_iff.1 e1).1
   obtain ⟨j',i,q1,q2,q3⟩:=openBet_inv (hA.bet _ x (by omega) hx)
   have : j = j':=by omega
   subst this
   rw [e1] at q2
   cases q2
   exact hβ _ _ q3
  ·have hn : id ∉ ids:=fun hin=>by
    obtain ⟨j,hj,he⟩:=List.getElem_of_mem hin
    have hij : ids[j]? = some id:=by rw [List.getElem?_eq_getElem hj,he]
    have hpj : j < prow.length:=by rw [hlen];exact hj
    cases hp : prow[j] with
    | none=>exact h1 (delsOf_mem ids prow j id hij (by rw [List.getElem?_eq_getElem hpj,hp]))
    | some r'=>exact h2 _ (modsOf_mem (back site ids nrow.length) ids prow j id r' hij (by rw [List.getElem?_eq_getElem hpj,hp])) rfl
   have h0:=hR.row id r h3
   obtain ⟨x,hx⟩:=h0.place.1
   rw [hog3 id (hisused id x hx) hn]
   refine h0.keep hβ hA.sub (fun g hg hs=>?_) hw (fun g hg=>hA.kept.block g (hyB id g hn hg))
   exact (hA.sin g hs).elim (fun h=>h) fun h=>absurd (hyB id g hn hg) h
 ·rcases hcl id g hg with ⟨j,hj,rfl,hgj⟩ | ⟨j,r,e1,e2,hgj⟩ | ⟨hn,hgj⟩ <;> rcases hcl id' g hg' with ⟨j',hj',rfl,hgj'⟩ | ⟨j',r',e1',e2',hgj'⟩ | ⟨hn',hgj'⟩
  ·have:=hA.inj _ _ g hgj hgj'
   rw [show j = j' from by omega]
  ·have:=hA.inj _ _ g hgj hgj'
   have hjl : j' < ids.length:=(List.getElem?_eq_some_iff.1 e1').1
   omega
  ·exact absurd (hyB _ g hn' hgj') (hnB1 j hj g hgj)
  ·have:=hA.inj _ _ g hgj hgj'
   have hjl : j < ids.length:=(List.getElem?_eq_some_iff.1 e1).1
   omega
  ·have:=hA.inj _ _ g hgj hgj'
   have : j = j':=by omega
   subst this
   rw [e1] at e1'
   cases e1'
   rfl
  ·exact absurd (hyB _ g hn' hgj') (hnB2 j r e2 g hgj)
  ·exact absurd (hyB _ g hn hgj) (hnB1 j' hj' g hgj')
  ·exact absurd (hyB _ g hn hgj) (hnB2 j' r' e2' g hgj')
  ·exact hR.inj id id' g hgj hgj'
 ·rcases hcl id g hg with ⟨j,hj,rfl,hgj⟩ | ⟨j,r,e1,e2,hgj⟩ | ⟨hn,hgj⟩
  ·exact hA.lt _ g hgj
  ·exact hA.lt _ g hgj
  ·exact Nat.lt_of_lt_of_le (hR.lt id g hgj) hA.kept.size
 ·split at hx
  ·rename_i j hj
   obtain ⟨rfl,hjl⟩:=isNew_inv hj
   have:=newsOf_keys (back site ids nrow.length) site nrow 0 j hjl
   rw [Nat.zero_add] at this
   exact List.mem_append_left _ this
  ·exact List.mem_append_right _ (hR.used id x hx)
 ·split at hx
  ·exact hA.one _ x hx
  ·exact hR.one id x hx
 ·split at hx
  ·rename_i j hj
   obtain ⟨rfl,hjl⟩:=isNew_inv hj
   have:=(hnew j hjl).2
   omega
  ·exact hR.pid id x hp hx
 ·refine ⟨?_,hβ⟩
  exact ⟨⟨⟨hA.kept.os.trans hO.bel.os,hA.kept.tape.trans hO.bel.tape,hA.kept.output.trans hO.bel.output,Nat.le_trans hO.bel.size hA.kept.size,fun k hk=>(hA.kept.block k (hBB k hk)).trans (hO.bel.block k hk)⟩,hO.bel.glb⟩,fun b hb=>(hA.sin b hb).elim (hO.sin b) fun h=>.inr fun hB=>h (hBB b hB),fun b hb=>hA.sub b (hO.sub b hb)⟩
theorem lookup_immL (fz : List Nat) (rows : List (Nat × Row)) (id : Nat) : lookup (match fz with | []=>rows | ids=>setImm ids rows) id = lookup (setImm fz rows) id:=by
 cases fz with
 | nil=>rw [setImm_nil]
 | cons i is=>rfl
theorem reachF_pre {rows : List (Nat × Row)} {f : List AV → List Nat → List Nat} (hf : ∀ cs acc,acc <+: f cs acc) : ∀ (is acc : List Nat),acc <+: reachF rows f is acc
 | [],acc=>by simp [reachF]
 | i :: is,acc=>by
  simp only [reachF]
  split
  ·exact reachF_pre hf is acc
  ·split
   ·exact ((List.prefix_append acc [i]).trans (hf _ _)).trans (reachF_pre hf is _)
   ·exact (List.prefix_append acc [i]).trans (reachF_pre hf is _)
   ·exact ((List.prefix_append acc [i]).trans (hf _ _)).trans (reachF_pre hf is _)
   ·exact reachF_pre hf is acc
theorem reach_pre {rows : List (Nat × Row)} : ∀ (n : Nat) (avs : List AV) (acc : List Nat),acc <+: reach rows n avs acc
 | 0,avs,acc=>by simp [reach]
 | n + 1,avs,acc=>by
  simp only [reach]
  exact reachF_pre (fun cs acc=>reach_pre n cs acc) _ _
theorem evX_open (hR : Rel w S B β og st a) (hO : Out w0 S0 B w S) {rowsV : List (Nat × Row)} (hsub : ∀ id x,lookup rowsV id = some x → lookup st.rows id = some x) (hfr : ∀ e,y e = some r → freshB site e st.used = true) (dst : Option Tmp) {avs : List AV} {args : List Value} {F : SummX}
  (hargs : VRels w S β avs args) (h : evX site F avs rowsV y = some r) :
  ∃ (S1 B1 : Nat → Prop) (β1 : Bet) (og1 : Nat → Option Nat) (avs1 : List AV) (rows1 : List Row) (k1 : AV → List (Option Row) → List Row → Option ρ),Heap w S1 B1 β1 og1 (zipIds PID rows1) ∧ ((∀ b,S1 b → B1 b) ∧ Glb B1 w) ∧ (∀ id x,β1 id = some x → PID ≤ id ∧ id < PID + rows1.length) ∧ VRels w S1 β1 avs1 args ∧ F ρ avs1 rows1 k1 = some r ∧
   (∀ id rest key tm,avs = .own id :: rest → lookup rowsV id = some (.box false (.tup [.int .i64 key] :: tm)) → ∃ rest1 tm1 rows2,avs1 = .own PID :: rest1 ∧ rows1 = .box false (.tup [.int .i64 key] :: tm1) :: rows2 ∧ β1 PID = β id ∧ og1 PID = og id) ∧
   ∀ u v prow nrow w' S' β' og',k1 v prow nrow = some r → After w S1 B1 β1 prow nrow v u w' S' β' og' → ∃ e S2 β2 og2,y e = some r ∧ Rel w' S2 B β2 og2 (apply site dst e st) (a.put dst u) ∧ Out w0 S0 B w' S2 ∧ ∀ id x,β id = some x → β2 id = some x:=by
 have hrow : ∀ id x,lookup rowsV id = some x → RowRel w S B β id (og id) x:=fun id x hx=>hR.row id x (hsub _ _ hx)
 unfold evX at h
 split at h
 ·cases h
 ·rename_i p hp
  obtain ⟨avs1,fz1⟩:=p
  split at h
  ·cases h
  ·rename_i q hq
   obtain ⟨rs,fz2⟩:=q
   split at h
   ·rename_i hc
    simp only [Bool.and_eq_true] at hc
    obtain ⟨⟨hnd,hsm⟩,hdis⟩:=hc
    generalize hids : reach rowsV depth avs1 [] = ids at h hq hnd hsm hdis
    have hnd':=nodupB_spec ids hnd
    have hsm' : ids.length ≤ 1000000:=Nat.le_of_ble_eq_true hsm
    have hdis' : ∀ i ∈ fz1 ++ fz2,i ∉ ids:=fun i hi=>by
     have:=(List.all_eq_true.1 hdis) i hi
     simpa using this
    generalize hfz : fz1 ++ fz2 = fz at h hdis'
    have hin : ∀ id ∈ fz,∃ r,lookup st.rows id = some r:=fun id hid=>by
     rw [← hfz] at hid
     rcases List.mem_append.1 hid with hid | hid
     ·obtain ⟨r,hr⟩:=purL_in (rows:=rowsV) (opn1_in depth) _ _ hp id hid;exact ⟨r,hsub _ _ hr⟩
     ·obtain ⟨r,hr⟩:=rowsAt_in _ _ hq id hid;exact ⟨r,hsub _ _ hr⟩
    have hFr:=hR.freeze fz
    have hOF:=hO.freeze hR fz hin
    obtain ⟨hrl,hrs⟩:=rowsAt_sound hrow hR.inj ids rs fz2 fz hq (fun i hi=>by rw [← hfz];simp [hi]) hdis'
    have hpa:=(purL_soundX (w:=w) (S:=S) (β:=β) (og:=og) (f:=opn1 rowsV depth) (opn1_sound hrow depth) _ _ _ hp hargs).keepS (S':=With S og fz) fun b=>With.sub (fun i hi=>by rw [← hfz];simp [hi])
    have hmP : ∀ id x j,β id = some x → toP ids id = some j → openBet β ids j = some x:=fun id x j hx hj=>by
     unfold toP at hj
     cases hi : idx ids id with
     | none=>simp [hi] at hj
     | some j' =>
      simp [hi] at hj
      subst hj
      rw [openBet_at β (idx_some ids id j' hi)]
      exact hx
    have himm : ∀ i ∈ ids,∃ r,lookup (setImm fz st.rows) i = some r ∧ r.imm = false:=fun i hi=>by
     obtain ⟨j,hj,he⟩:=List.getElem_of_mem hi
     obtain ⟨r1,r0,_,hl0,hm0,_⟩:=hrs j i (by rw [List.getElem?_eq_getElem hj,he])
     refine ⟨r0,?_,hm0⟩
     have hni : fz.contains i = false:=by
      have : i ∉ fz:=fun h=>hdis' i h hi
      simpa using this
     rw [lookup_setImm,hsub _ _ hl0]
     simp only [Option.map_some,hni]
     rfl
    have hnS : ∀ i ∈ ids,∀ g,og i = some g → ¬ With S og fz g:=fun i hi g hg=>by
     obtain ⟨r,hr,hm⟩:=himm i hi
     exact (hFr.row i r hr).free hm g hg
    have hH : Heap w (With S og fz) (fun b=>b < w.heap.size ∧ ∀ i ∈ ids,og i ≠ some b) (openBet β ids) (openBet og ids) (zipIds PID (rs.map (Row.ren (toP ids)))):=by
     refine ⟨fun id x hx=>?_,fun id id' g hg hg'=>?_,fun id g hg=>?_,fun id x hx=>?_,hFr.Slt,fun b hb=>hb.1⟩
     ·obtain ⟨hle,hx⟩:=lookup_zipIds _ _ _ _ hx
      obtain ⟨jj,rfl⟩ : ∃ jj,id = PID + jj:=⟨id - PID,by omega⟩
      rw [Nat.add_sub_cancel_left,List.getElem?_map] at hx
      cases hr : rs[jj]? with
      | none=>simp [hr] at hx
      | some r1 =>
       simp [hr] at hx
       subst hx
       have hjl : jj < ids.length:=by rw [← hrl];exact (List.getElem?_eq_some_iff.1 hr).1
       have hij : ids[jj]? = some ids[jj]:=List.getElem?_eq_getElem hjl
       obtain ⟨r2,r0,hr2,hl0,hm0,hrel,_⟩:=hrs _ _ hij
       rw [hr] at hr2
       cases hr2
       rw [openBet_at og hij]
       refine hrel.ren hmP (fun x hx=>?_) (fun g hg _ hb=>hb.2 _ (List.mem_of_getElem? hij) hg)
       rw [openBet_at β hij]
       exact hx
     ·obtain ⟨j,i,rfl,e1,e2⟩:=openBet_inv hg
      obtain ⟨j',i',rfl,e1',e2'⟩:=openBet_inv hg'
      have:=hR.inj i i' g e2 e2'
      subst this
      rw [hnd' j j' i e1 e1']
     ·obtain ⟨j,i,rfl,e1,e2⟩:=openBet_inv hg
      exact hR.lt i g e2
     ·obtain ⟨j,i,rfl,e1,e2⟩:=openBet_inv hx
      exact hR.one i x e2
    refine ⟨With S og fz,fun b=>b < w.heap.size ∧ ∀ i ∈ ids,og i ≠ some b,openBet β ids,openBet og ids,_,_,_,hH,⟨fun b hb=>⟨hFr.Slt b hb,fun i hi hg=>hnS i hi b hg hb⟩,hO.bel.here.mono fun b hb=>⟨hR.Ble b hb,fun i hi hg=>by
      obtain ⟨r,hr,hm⟩:=himm i hi
      exact (hFr.row i r hr).place.2 b hg hb⟩⟩,(fun id x hx=>by
      obtain ⟨j,i,rfl,e1,e2⟩:=openBet_inv hx
      have:=(List.getElem?_eq_some_iff.1 e1).1
      rw [List.length_map,hrl]
      omega),rens_rel hmP hpa,h,fun id rest key tm e1 e2=>?_,fun u v prow nrow w' S' β' og' hk hA=>?_⟩
    ·subst e1
     have e3 : opn1 rowsV depth (.own id) = some (.own id,[]):=by
      unfold depth
      simp only [opn1,e2]
     simp only [purL,e3] at hp
     cases hr : purL (opn1 rowsV depth) rest with
     | none=>rw [hr] at hp;cases hp
     | some q1 =>
      rw [hr] at hp
      cases hp
      have hpre : [id] <+: ids:=by
       rw [← hids]
       show [id] <+: reachF rowsV (reach rowsV 11) (id :: AV.refss q1.1) []
       simp only [reachF,List.contains_nil,Bool.false_eq_true,if_false,e2]
       exact (reach_pre 11 _ _).trans (reachF_pre (fun cs acc=>reach_pre 11 cs acc) _ _)
      obtain ⟨is,his⟩:=hpre
      have his : ids = id :: is:=his.symm
      have hj0 : ids[0]? = some id:=by rw [his];rfl
      have e4 : toP ids id = some PID:=by unfold toP;rw [his];simp [idx]
      rw [his] at hq
      simp only [rowsAt,e2] at hq
      cases hr2 : rowsAt rowsV is with
      | none=>rw [hr2] at hq;cases hq
      | some q2 =>
       rw [hr2] at hq
       have e5 : opn1 rowsV depth (.tup [.int .i64 key]) = some (.tup [.int .i64 key],[]):=by
        unfold depth
        simp only [opn1,purL]
        rfl
       simp only [purL,e5] at hq
       cases hr3 : purL (opn1 rowsV depth) tm with
       | none=>rw [hr3] at hq;cases hq
       | some q3 =>
        rw [hr3] at hq
        cases hq
        refine ⟨AV.rens (toP ids) q1.1,AV.rens (toP ids) q3.1,q2.1.map (Row.ren (toP ids)),?_,rfl,openBet_at β hj0,openBet_at og hj0⟩
        show (AV.own id).ren (toP ids) :: _ = _
        simp only [AV.ren,e4]
    ·split at hk
     ·rename_i hlen
      have hlen' : prow.length = ids.length:=by simpa using hlen
      have hfresh:=hfr _ hk
      simp only [freshB,Bool.true_and,List.all_eq_true,Bool.and_eq_true,Bool.not_eq_true'] at hfresh
      have hall : ∃ S2 β2 og2,Rel w' S2 B β2 og2 (apply site dst { v:=v.ren (back site ids nrow.length),imm:=fz,dels:=delsOf ids prow,mods:=modsOf (back site ids nrow.length) ids prow,news:=newsOf (back site ids nrow.length) site 0 nrow } st) (a.put dst u) ∧ Out w0 S0 B w' S2 ∧ ∀ id x,β id = some x → β2 id = some x:=?_
      ·obtain ⟨S2,β2,og2,hx1,hx2,hx3⟩:=hall
       exact ⟨_,S2,β2,og2,hk,hx1,hx2,hx3⟩
      refine after_rel' (site:=site) hFr hOF hnd' himm hsm' hlen' dst hA (fun p hp=>?_) (fun id r hr=>?_)
      ·obtain ⟨h1,h2⟩:=hfresh p hp
       exact ⟨by simpa using h1,Nat.blt_eq ▸ h2⟩
      ·simp only [applyRows] at hr
       rcases lookup_foldl_set _ _ _ _ hr with h | ⟨_,h⟩
       ·exact .inl h
       ·rcases lookup_foldl_set _ _ _ _ h with h | ⟨h1,h⟩
        ·exact .inr (.inl h)
        ·obtain ⟨h2,h3⟩:=lookup_foldl_del _ _ _ _ h
         exact .inr (.inr ⟨h2,h1,(lookup_immL fz st.rows id).symm.trans h3⟩)
     ·cases hk
   ·cases h
theorem op_callX (hR : Rel w S B β og st a) (hO : Out w0 S0 B w S) {rowsV : List (Nat × Row)} (hsub : ∀ id x,lookup rowsV id = some x → lookup st.rows id = some x) (hfr : ∀ e,y e = some r → freshB site e st.used = true) {f : Operand} {args : Array Operand} {ts : Array TypeId} {g : Nat} {caps : List AV} {F : SummX}
  (ho : o.op = .call { callee:=.value f,args:=args,argTypes:=ts }) (hf : val st.tm f = .fn g caps) (hF : XOK P g F) (hen : entersB P g = true)
  (h : evX site F (valsT P st.tm ts.toList args.toList ++ caps) rowsV y = some r) (hK : Good w0 S0 B site o st y r K) : o.wpR R P a w K Q:=by
 have hfv:=val_rel hR.tm f
 rw [hf] at hfv
 generalize hfe : a.eval f = fv at hfv
 cases hfv with
 | fn _ _ _ cvs hcl hch =>
 have hargs:=(valsT_rel hR.tm P ts.toList args.toList).append (VRels.mono (w':=w) (S':=S) (β':=β) ⟨hcl,hch⟩ (fun _ h=>h) (fun _ _=>rfl) (fun _ _ h=>h))
 obtain ⟨S1,B1,β1,og1,avs1,rows1,k1,hH,hSB,hdom,hv1,hF1,_,hcont⟩:=evX_open hR hO hsub hfr o.dst hargs h
 have hC:=hF ρ w S1 B1 β1 og1 avs1 rows1 _ k1 r hH hSB hdom hv1 hF1
 have hmap : (args.map a.eval) ++ cvs.toArray = (args.toList.map a.eval ++ cvs).toArray:=by apply Array.ext';simp
 have hrun : ∀ s,(callFunc g (args.toList.map a.eval ++ cvs).toArray).run P w = s → (execOp a.eval o).run P w = s:=fun s hcf=>by
  simp only [execOp,ho,resolve,hfe,Deferred.ofValue]
  simp only [pure_bind,invoke,Array.empty_append,hmap]
  exact hcf
 refine hC.wp hen hrun fun e w' hpost=>?_
 obtain ⟨u,v,prow,nrow,S',β',og',rfl,hk,hA⟩:=hpost
 obtain ⟨e,S2,β2,og2,hy,hR2,hO2,_⟩:=hcont u v prow nrow w' S' β' og' hk hA
 exact ⟨u,rfl,hK _ _ _ hy ⟨S2,β2,og2,hR2,hO2⟩⟩
def YOK (P : Program) (key : Int) (F : SummX) : Prop :=
 ∀ (ρ : Type) (w : World) (S B : Nat → Prop) (β : Bet) (og : Nat → Option Nat) (avs tm : List AV) (rows : List Row) (args : List Value) (k : AV → List (Option Row) → List Row → Option ρ) (r : ρ) (l : Nat) (r0 : Go.Loop) (us : List Value),Heap w S B β og (zipIds PID (.box false (.tup [.int .i64 key] :: tm) :: rows)) → (∀ b,S b → B b) ∧ Glb B w → (∀ id x,β id = some x → PID ≤ id ∧ id < PID + (rows.length + 1)) → VRels w S β avs args →
  β PID = some (.func (.yield l) #[] #[],1) → og PID = some l → w.heap[l]? = some (.loop r0) → r0.state = .ready → r0.pending = none → (r0.params,r0.assign,r0.body) = loopCode key → r0.tmps.toList = us → VRels w S β tm us →
  F ρ (.own PID :: avs) (.box false (.tup [.int .i64 key] :: tm) :: rows) k = some r →
  RoundIn Fence.wide 0 P l r0.fn ((r0.params.zip args.toArray).foldl (fun t (p,v)=>t.setIfInBounds p v) r0.tmps) r0.assign r0.body w fun e w'=>∃ u v prow nrow S' β' og',e = .returned u ∧ k v prow nrow = some r ∧ After w S B β prow nrow v u w' S' β' og'
theorem op_yield (hR : Rel w S B β og st a) (hO : Out w0 S0 B w S) {rowsV : List (Nat × Row)} (hsub : ∀ id x,lookup rowsV id = some x → lookup st.rows id = some x) (hfr : ∀ e,y e = some r → freshB site e st.used = true) {f : Operand} {args : Array Operand} {ts : Array TypeId} {id : Nat} {key : Int} {tm : List AV} {F : SummX}
  (ho : o.op = .call { callee:=.value f,args:=args,argTypes:=ts }) (hf : val st.tm f = .own id) (hl : lookup rowsV id = some (.box false (.tup [.int .i64 key] :: tm))) (hn : args.size = (loopCode key).1.size) (hF : YOK P key F)
  (h : evX site F (.own id :: valsT P st.tm ts.toList args.toList) rowsV y = some r) (hK : Good w0 S0 B site o st y r K) : o.wpR R P a w K Q:=by
 have hfv:=val_rel hR.tm f
 rw [hf] at hfv
 have hargs:=VRels.cons hfv (valsT_rel hR.tm P ts.toList args.toList)
 obtain ⟨S1,B1,β1,og1,avs1,rows1,k1,hH,hSB,hdom,hv1,hF1,hown,hcont⟩:=evX_open hR hO hsub hfr o.dst hargs h
 obtain ⟨rest1,tm1,rows2,rfl,rfl,hβ,hog⟩:=hown id _ key tm rfl hl
 generalize hfe : a.eval f = fv at hfv hv1
 cases hfv with
 | own _ _ _ wd hbt =>
 have h0:=hH.row PID (.box false (.tup [.int .i64 key] :: tm1)) (by simp [zipIds,lookup])
 obtain ⟨g,vs,v0,hg,hb0,hH0,hvs,_⟩:=h0
 obtain ⟨v,vs',e0,hx,hxs⟩:=hvs.inv
 have hx' : ∃ xs : List Value,v = .tuple xs.toArray:=by cases hx with | tup _ _ xs _ _=>exact ⟨xs,rfl⟩
 obtain ⟨xs,rfl⟩:=hx'
 rcases hH0 with ⟨_,_,h1⟩ | ⟨r0,key',us,d,hh,hs,hpd,hq,e1,e2,e3⟩ | ⟨s,pos,_,e1,_⟩ | ⟨ms,_,_,e1,_⟩
 rotate_left 2
 ·exfalso
  rw [e1] at e0
  simp only [List.cons.injEq,Value.tuple.injEq] at e0
  have hlen:=congrArg Array.size e0.1
  cases hx with
  | tup _ _ xs hl _ =>
   simp at hlen hl
   omega
 ·exfalso
  rw [e1] at e0
  simp only [List.cons.injEq,Value.tuple.injEq] at e0
  have hxl:=congrArg Array.toList e0.1
  cases hx with
  | tup _ _ ys hl hc =>
   simp only at hxl
   subst hxl
   cases ms with
   | nil=>simp at hl
   | cons e ms =>
    have h0:=hc 0 (.int .i64 key) (.tuple #[e.key,e.val]) rfl rfl
    cases h0
 ·have:=h1 (.tuple xs.toArray) (by rw [e0];simp)
  cases this
 ·have hkk : d = false ∧ key' = key ∧ us = vs':=by
   rw [e1] at e0
   simp only [List.cons.injEq] at e0
   cases hx with
   | tup _ _ xs hl hc =>
    have e4 : xs = recV key' d:=by
     have:=e0.1
     simp only [Value.tuple.injEq] at this
     rw [← Array.toList_inj] at this
     simpa using this.symm
    cases d with
    | true=>rw [e4] at hl;simp [recV] at hl
    | false =>
     have e5 : xs = [.int .i64 key']:=e4
     subst e5
     refine ⟨rfl,?_,e0.2⟩
     have:=hc 0 _ _ rfl rfl
     cases this
     rfl
  obtain ⟨rfl,rfl,rfl⟩:=hkk
  have hfv2 : fv = .func (.yield g) #[] #[] ∧ wd = 1:=by
   rw [hβ,hbt] at hb0
   simp only [Option.some.injEq,Prod.mk.injEq] at hb0
   exact ⟨hb0.1.trans e3,hb0.2⟩
  obtain ⟨rfl,rfl⟩:=hfv2
  obtain ⟨_,_,e6,_,hv2⟩:=hv1.inv
  simp only [List.cons.injEq] at e6
  obtain ⟨_,rfl⟩:=e6
  have hround:=hF ρ w S1 B1 β1 og1 rest1 tm1 rows2 _ k1 r g r0 us hH hSB (by simpa using hdom) hv2 (by rw [hβ,hbt]) hg hh hs hpd hq e2 hxs hF1
  refine ⟨fun _ _=>trivial,?_⟩
  have hsz : (args.map a.eval).size = r0.params.size:=by
   rw [Array.size_map,hn]
   have : (r0.params,r0.assign,r0.body).1 = (loopCode key').1:=by rw [hq]
   exact (congrArg Array.size this).symm
  have hrun : (execOp a.eval o).run P w = .ok (.round g r0.fn ((r0.params.zip (args.toList.map a.eval).toArray).foldl (fun t (p,v)=>t.setIfInBounds p v) r0.tmps) r0.assign r0.body) w:=by
   simp only [execOp,ho,resolve,hfe,Deferred.ofValue]
   simp only [pure_bind,invoke,Array.empty_append]
   rw [run_yield hh hsz,show args.map a.eval = (args.toList.map a.eval).toArray from by apply Array.ext';simp]
  rw [semAt_of hrun (fun _ _ h=>by cases h) (fun _ _ h=>by cases h),Oper.uponIn_round]
  refine ⟨fun h=>(by cases h),RoundIn.mono (show RoundIn (fen R) 0 P g r0.fn _ r0.assign r0.body w _ from hround) fun e w' hpost=>?_⟩
  obtain ⟨u,v,prow,nrow,S',β',og',rfl,hk,hA⟩:=hpost
  obtain ⟨e,S2,β2,og2,hy,hR2,hO2,_⟩:=hcont u v prow nrow w' S' β' og' hk hA
  exact hK _ _ _ hy ⟨S2,β2,og2,hR2,hO2⟩
end ops
end Go.Ev


namespace Go.Ev
open Go.RowKit
section ops
variable {R : Option Nat} {ρ : Type} {P : Program} {w0 w : World} {S0 S : Nat → Prop} {B : Ctx} {β : Bet} {og : Nat → Option Nat} {st : St} {a : Act} {o : Oper} {site : Nat} {y : Eff → Option ρ} {r : ρ}
 {K : Act → World → Prop} {Q : Exit → Act → World → Prop}
theorem runeT_spec {e : TypeId} (h : runeT P e = true) : P.underlying e = some (.int .i32):=by
 unfold runeT at h
 split at h
 ·assumption
 ·cases h
theorem runesFrom_ints (s : ByteArray) : ∀ (n i : Nat) (acc : Array Value),(∀ v ∈ acc.toList,∃ m,v = .int .i32 m) → ∀ v ∈ (Conv.runesFrom s n i acc).toList,∃ m,v = .int .i32 m
 | 0,i,acc,h=>h
 | n + 1,i,acc,h=>by
  unfold Conv.runesFrom
  split
  ·refine runesFrom_ints s n _ _ fun v hv=>?_
   rw [Array.toList_push] at hv
   rcases List.mem_append.1 hv with hv | hv
   ·exact h v hv
   ·simp at hv;exact ⟨_,hv⟩
  ·exact h
theorem runes_ints (s : List UInt8) : (Conv.runesFrom ⟨s.toArray⟩ s.length 0 #[]).toList = (runesI s).map (Value.int .i32):=by
 unfold runesI
 rw [List.map_map]
 conv=>lhs;rw [← List.map_id (Conv.runesFrom ⟨s.toArray⟩ s.length 0 #[]).toList]
 refine List.map_congr_left fun v hv=>?_
 obtain ⟨m,rfl⟩:=runesFrom_ints ⟨s.toArray⟩ s.length 0 #[] (fun v hv=>by simp at hv) v hv
 rfl
theorem runesI_len (s : List UInt8) : (runesI s).length ≤ s.length:=by
 have h1:=size_runesFrom ⟨s.toArray⟩ s.length 0 #[]
 have h2:=congrArg List.length (runes_ints s)
 rw [List.length_map,Array.length_toList] at h2
 simp at h1
 omega
theorem op_runes (hR : Rel w S B β og st a) (hO : Out w0 S0 B w S) (hf : Fresh site st.used) {src dst e : TypeId} {x : Operand} {s : List UInt8} (ho : o.op = .convert src dst x) (hs : P.underlying src = some .string) (hd : P.underlying dst = some (.slice e)) (hx : valT P st.tm src x = .str s) (hb : runeT P e = true) (hl : s.length ≤ 1000000)
  (hy : y { v:=.own site,new:=some (.arr false (.int .i32) e (runesAV s) none) } = some r) (hK : Good w0 S0 B site o st y r K) : o.wpR R P a w K Q:=by
 have hv:=valT_rel hR.tm P src x
 rw [hx] at hv
 have he:=hv.str_inv
 have hub:=runeT_spec hb
 have hlen:=runesI_len s
 have hsz : (ByteArray.mk s.toArray).size = s.length:=by simp [ByteArray.size]
 have hrl : (Conv.runesFrom ⟨s.toArray⟩ s.length 0 #[]).size = (runesI s).length:=by
  have h2:=congrArg List.length (runes_ints s)
  rw [List.length_map,Array.length_toList] at h2
  exact h2
 have hrun:=run_runes_of_string (P:=P) w src dst e ⟨s.toArray⟩ hs hd hub (by rw [hsz,hrl];omega)
 rw [hsz,hrl] at hrun
 obtain ⟨cap,hcap⟩ : ∃ cap,cap = grownCap w (runesI s).length 0 e:=⟨_,rfl⟩
 rw [← hcap] at hrun
 have hge : (runesI s).length ≤ cap:=by rw [hcap];exact grownCap_ge w (runesI s).length 0 e
 have hlm : cap ≤ maxLen:=by rw [hcap];exact grownCap_le_maxLen w (runesI s).length 0 e (by unfold maxLen;omega)
 have hcells : Conv.runesFrom ⟨s.toArray⟩ s.length 0 #[] ++ Array.replicate (cap - (runesI s).length) (Value.int .i32 0) = (((runesI s) ++ List.replicate (cap - (runesI s).length) 0).map (Value.int .i32)).toArray:=by
  apply Array.ext'
  simp [runes_ints]
 rw [hcells] at hrun
 obtain ⟨w',hw'⟩ : ∃ w',w' = w.drew.alloc (.cells (((runesI s) ++ List.replicate (cap - (runesI s).length) 0).map (Value.int .i32)).toArray e):=⟨_,rfl⟩
 rw [← hw'] at hrun
 have hexec : (execOp a.eval o).run P w = .ok (.value (.slice (some ⟨w.heap.size,0,none⟩) (runesI s).length cap)) w':=by
  simp only [execOp,ho,he,Sem.run_bind,Sem.run_pure,Result.andThen_ok,hrun]
 have hbl : Below w.heap.size w w':=by
  rw [hw']
  exact ((Below.refl w.heap.size w).drew).alloc (by simp [World.drew,-World.drew_eq]) _
 have hsize : w.heap.size < w'.heap.size:=by rw [hw'];simp
 have hnew : w'.heap[w.heap.size]? = some (.cells (((runesI s) ++ List.replicate (cap - (runesI s).length) 0).map (Value.int .i32)).toArray e):=by
  have:=heap_alloc_new w.drew (.cells (((runesI s) ++ List.replicate (cap - (runesI s).length) 0).map (Value.int .i32)).toArray e)
  rw [hw']
  simpa using this
 have hN:=hR.new site hf o.dst hbl (S':=S) (fun _ h=>h) (fun _ _ h=>h) (fun b hs=>Nat.lt_of_lt_of_le (hR.Slt b hs) hbl.size) (x:=.slice (some ⟨w.heap.size,0,none⟩) (runesI s).length cap) (wd:=(Sh.int .i32).width) (o:=some w.heap.size) rfl (fun g hg=>by cases hg;exact ⟨Nat.le_refl _,hsize⟩)
  (r:=.arr false (.int .i32) e (runesAV s) none) (v:=.own site) (u:=.slice (some ⟨w.heap.size,0,none⟩) (runesI s).length cap) ?_ (.own _ site _ _ (upd_same _ _ _))
 ·exact wp_value hexec (hK _ _ _ hy ⟨S,_,_,hN,hO.grow hR.Ble hbl⟩)
 ·have hes : runesAV s ++ (List.replicate (cap - (runesI s).length) (0 : Int)).map (AV.int .i32) = ((runesI s) ++ List.replicate (cap - (runesI s).length) 0).map (AV.int .i32):=by
   unfold runesAV;rw [List.map_append]
  have hbl2 : (runesAV s).length = (runesI s).length:=by unfold runesAV;simp
  refine ⟨by decide,_,(List.replicate (cap - (runesI s).length) (0 : Int)).map (AV.int .i32),((runesI s) ++ List.replicate (cap - (runesI s).length) 0).map (Value.int .i32),?_,(fun c h=>by cases h),upd_same _ _ _,?_,?_,.inr ⟨w.heap.size,[],rfl,?_,fun h=>Nat.lt_irrefl _ (hR.Ble _ h),?_,?_,fun _ hs=>absurd (hR.Slt _ hs) (Nat.lt_irrefl _),(fun h=>by cases h)⟩⟩
  ·rw [hes]
   intro v hv
   obtain ⟨n,_,rfl⟩:=List.mem_map.1 hv
   rfl
  ·intro u hu
   obtain ⟨n,_,rfl⟩:=List.mem_map.1 hu
   rfl
  ·rw [hes,flat_ints]
   exact ints_rel _ _ _ _ _
  ·rw [hbl2,List.length_map,List.length_replicate,Nat.add_sub_cancel' hge];rfl
  ·exact ⟨_,.inl rfl,hnew⟩
  ·rw [hbl2,List.length_map,List.length_replicate,Nat.add_sub_cancel' hge];exact hlm
theorem op_runeStr (hR : Rel w S B β og st a) (hO : Out w0 S0 B w S) {rowsV : List (Nat × Row)} (hsub : ∀ id x,lookup rowsV id = some x → lookup st.rows id = some x) {src dst e : TypeId} {x : Operand} {s : Sh} {es : List AV} (ho : o.op = .convert src dst x) (hs : P.underlying src = some (.slice e)) (hd : P.underlying dst = some .string) (hx : elemsOf rowsV (valT P st.tm src x) = some (s,es)) (hb : runeT P e = true) (hsh : Sh.beq s (.int .i32) = true)
  (hy : y { v:=.str (runeStr es) } = some r) (hK : Good w0 S0 B site o st y r K) : o.wpR R P a w K Q:=by
 have hv:=valT_rel hR.tm P src x
 obtain ⟨A,c,ad,xs,he,hse,hA,hvs,h1,hxc,hlm⟩:=elems_sound hR hsub hx hv
 have hub:=runeT_spec hb
 obtain rfl:=Sh.beq_eq _ _ hsh
 obtain ⟨ns,hns⟩ : ∃ ns : List Int,es = ns.map (AV.int .i32):=by
  refine ⟨es.map AV.toInt,?_⟩
  rw [List.map_map]
  symm
  conv=>rhs;rw [← List.map_id es]
  refine List.map_congr_left fun v hv=>?_
  have:=hse v hv
  cases v <;> simp [hasSh,has1] at this
  subst this
  rfl
 subst hns
 rw [flat_ints] at hvs
 have hxs : xs = ns.map (Value.int .i32):=by
  refine List.ext_getElem? fun j=>?_
  rw [List.getElem?_map]
  cases hj : ns[j]? with
  | none =>
   have : xs.length = ns.length:=by rw [hvs.1,List.length_map]
   rw [List.getElem?_eq_none (by rw [this];exact List.getElem?_eq_none_iff.1 hj)]
   rfl
  | some n =>
   obtain ⟨u,hu,hr⟩:=hvs.at_ (j:=j) (c:=.int .i32 n) (by rw [List.getElem?_map,hj];rfl)
   rw [hu,hr.int_inv]
   rfl
 have hstr : (⟨(runeStr (ns.map (AV.int .i32))).toArray⟩ : ByteArray) = runesBytes ns:=by
  unfold runeStr runesBytes
  rw [List.map_map]
  have : (AV.toInt ∘ AV.int .i32) = id:=rfl
  rw [this,List.map_id]
 have hrun : (Conv.runesToString (.slice A (ns.map (AV.int .i32)).length c)).run P w = .ok (.string ⟨(runeStr (ns.map (AV.int .i32))).toArray⟩) w:=by
  rw [hstr]
  cases ns with
  | nil =>
   cases A with
   | none=>simp [Conv.runesToString,Sem.run_pure,runesBytes]
   | some b =>
    have:=run_runesToString (P:=P) w b 0 c [] (by simpa using run_loadCells_list (P:=P) w b [] (fun j v h=>by simp at h))
    exact this
  | cons n ns =>
   rw [hA (by simp)]
   have hl:=run_loadCells_list (P:=P) w ad xs hxc
   rw [hxs] at hl
   have:=run_runesToString (P:=P) w ad (n :: ns).length c (n :: ns) (by simpa using hl)
   rw [List.length_map,this]
 have hexec : (execOp a.eval o).run P w = .ok (.value (.string ⟨(runeStr (ns.map (AV.int .i32))).toArray⟩)) w:=by
  have hc : (convert src dst (a.eval x)).run P w = .ok (.string ⟨(runeStr (ns.map (AV.int .i32))).toArray⟩) w:=by
   rw [he]
   unfold convert
   simp only [Sem.run_bind,run_underlying hs,run_underlying hd,Result.andThen_ok]
   cases A <;> simp only [run_underlying hub,Result.andThen_ok,hrun]
  simp only [execOp,ho,Sem.run_bind,Sem.run_pure,Result.andThen_ok,hc]
 exact wp_value hexec (hK _ _ _ hy ⟨S,β,og,hR.put o.dst (.str _ _),hO⟩)
end ops
end Go.Ev

namespace Go.Ev
open Go.RowKit Go.MapKept
section ops
variable {R : Option Nat} {ρ : Type} {P : Program} {w0 w : World} {S0 S : Nat → Prop} {B : Ctx} {β : Bet} {og : Nat → Option Nat} {st : St} {a : Act} {o : Oper} {site : Nat} {y : Eff → Option ρ} {r : ρ}
 {K : Act → World → Prop} {Q : Exit → Act → World → Prop}
def MEnts (w : World) (S : Nat → Prop) : List AV → List MapEntry → Prop
 | [],[]=>True
 | e :: es,x :: xs=>VRel w S nob e (.tuple #[x.key,x.val]) ∧ MEnts w S es xs
 | _,_=>False
theorem MEnts.of {w : World} {S : Nat → Prop} : ∀ {es : List AV} {xs : List MapEntry},xs.length = es.length → (∀ (j : Nat) (c : AV) (u : Value × Value),es[j]? = some c → (xs.map fun e=>(e.key,e.val))[j]? = some u → VRel w S nob c (.tuple #[u.1,u.2])) → MEnts w S es xs
 | [],[],_,_=>trivial
 | e :: es,x :: xs,hl,h=>⟨h 0 e _ rfl rfl,MEnts.of (by simpa using hl) fun j c u hc hu=>h (j + 1) c u (by simpa using hc) (by simpa using hu)⟩
 | [],_ :: _,hl,_=>by simp at hl
 | _ :: _,[],hl,_=>by simp at hl
theorem MEnts.to {w : World} {S : Nat → Prop} : ∀ {es : List AV} {xs : List MapEntry},MEnts w S es xs → xs.length = es.length ∧ ∀ (j : Nat) (c : AV) (u : Value × Value),es[j]? = some c → (xs.map fun e=>(e.key,e.val))[j]? = some u → VRel w S nob c (.tuple #[u.1,u.2])
 | [],[],_=>⟨rfl,fun j c u hc=>by simp at hc⟩
 | e :: es,x :: xs,h=>by
  obtain ⟨h1,h2⟩:=MEnts.to h.2
  refine ⟨by simp [h1],fun j c u hc hu=>?_⟩
  cases j with
  | zero=>simp at hc hu;subst hc hu;exact h.1
  | succ j=>exact h2 j c u (by simpa using hc) (by simpa using hu)
 | [],_ :: _,h=>h.elim
 | _ :: _,[],h=>h.elim
theorem ents_map (xs : List MapEntry) : (xs.map fun e=>(e.key,e.val)).map (fun p=>Value.tuple #[p.1,p.2]) = xs.map fun e=>Value.tuple #[e.key,e.val]:=by rw [List.map_map];rfl
theorem MEnts.rel {w : World} {S : Nat → Prop} {β : Bet} {es : List AV} {xs : List MapEntry} (h : MEnts w S es xs) : VRels w S β [.mpv es] [.tuple (xs.map fun e=>Value.tuple #[e.key,e.val]).toArray]:=by
 rw [← ents_map]
 exact VRels.cons (.mpv β es _ (by rw [List.length_map];exact h.to.1) h.to.2) VRels.nil
theorem MEnts.len {w : World} {S : Nat → Prop} {es : List AV} {xs : List MapEntry} (h : MEnts w S es xs) : xs.length = es.length:=h.to.1
theorem MEnts.keep {w w' : World} {S S' : Nat → Prop} (hS : ∀ b,S b → S' b) (hw : ∀ b,S b → w'.heap[b]? = w.heap[b]?) : ∀ {es : List AV} {xs : List MapEntry},MEnts w S es xs → MEnts w' S' es xs
 | [],[],_=>trivial
 | _ :: _,_ :: _,h=>⟨h.1.mono hS hw (fun _ _ h=>h),MEnts.keep hS hw h.2⟩
 | [],_ :: _,h=>h.elim
 | _ :: _,[],h=>h.elim
theorem tup2_rel {w : World} {S : Nat → Prop} {β : Bet} {x y : AV} {u v : Value} (h : VRel w S β x u) (h' : VRel w S β y v) : VRel w S β (.tup [x,y]) (.tuple #[u,v]) :=
 .tup β [x,y] [u,v] rfl fun j c z hc hu=>by
  match j with
  | 0=>simp at hc hu;subst hc hu;exact h
  | 1=>simp at hc hu;subst hc hu;exact h'
  | j + 2=>simp at hc
theorem pairs_inj : ∀ (ps qs : List (Value × Value)),(ps.map fun p=>Value.tuple #[p.1,p.2]) = (qs.map fun p=>Value.tuple #[p.1,p.2]) → ps = qs
 | [],[],_=>rfl
 | [],_ :: _,h=>by simp at h
 | _ :: _,[],h=>by simp at h
 | (a,b) :: ps,(c,d) :: qs,h=>by
  simp only [List.map_cons,List.cons.injEq,Value.tuple.injEq] at h
  have h1:=congrArg Array.toList h.1
  simp at h1
  rw [pairs_inj ps qs h.2,h1.1,h1.2]
theorem mapOf_spec {rows : List (Nat × Row)} {t kt et : TypeId} {x : AV} {id : Nat} {im : Bool} {es : List AV} (h : mapOf P rows t x = some (kt,et,id,im,es)) : P.underlying t = some (.map kt et) ∧ x = .own id ∧ lookup rows id = some (.box im [.mpv es]) ∧ keyT P kt = true:=by
 unfold mapOf at h
 split at h
 ·rename_i kt' et' id' ht
  split at h
  ·rename_i im' es' hl
   split at h
   ·rename_i hk
    cases h
    exact ⟨ht,rfl,hl,hk⟩
   ·cases h
  ·cases h
 ·cases h
theorem map_at (hR : Rel w S B β og st a) {id : Nat} {im : Bool} {es : List AV} {u : Value} (hl : lookup st.rows id = some (.box im [.mpv es])) (hu : VRel w S β (.own id) u) :
  ∃ (g : Nat) (xs : List MapEntry),og id = some g ∧ u = .map (some g) ∧ β id = some (.map (some g),1) ∧ w.heap[g]? = some (.map xs.toArray xs.length) ∧ (∀ (i : Nat) (e : MapEntry),xs[i]? = some e → e.born = i) ∧ MEnts w S es xs ∧ (im = false → ¬ S g) ∧ ¬ B g:=by
 obtain ⟨g,vs,v,hog,hb,hH,hvs,hi,_,hB⟩:=hR.row id _ hl
 have huv : u = v:=by
  cases hu with
  | own _ _ _ wd hb'=>rw [hb] at hb';simp only [Option.some.injEq,Prod.mk.injEq] at hb';exact hb'.1.symm
 subst huv
 obtain ⟨c,vs',e0,hc,hn⟩:=hvs.inv
 obtain rfl:=hn.inv_nil
 cases hc with
 | mpv _ _ zs hzl hz =>
  rcases hH with ⟨_,_,h1⟩ | ⟨_,key,us,d,_,_,_,_,h1,_,_⟩ | ⟨s,pos,_,h1,_⟩ | ⟨xs,hh,hbo,h1,rfl⟩
  ·have:=h1 (.tuple (zs.map fun p=>Value.tuple #[p.1,p.2]).toArray) (by rw [e0];simp)
   cases this
  ·exfalso
   rw [h1] at e0
   simp only [List.cons.injEq,Value.tuple.injEq] at e0
   have e1:=congrArg Array.toList e0.1
   cases zs with
   | nil=>cases d <;> simp [recV] at e1
   | cons p zs=>cases d <;> simp [recV] at e1
  ·exfalso
   rw [h1] at e0
   simp only [List.cons.injEq,Value.tuple.injEq] at e0
   have e1:=congrArg Array.toList e0.1
   cases zs with
   | nil=>simp at e1
   | cons p zs=>simp at e1
  ·rw [h1] at e0
   simp only [List.cons.injEq,Value.tuple.injEq,and_true] at e0
   have e1:=congrArg Array.toList e0
   have e2 : (xs.map fun e=>(e.key,e.val)) = zs:=by
    rw [← ents_map] at e1
    exact pairs_inj _ _ e1
   subst e2
   exact ⟨g,xs,hog,rfl,hb,hh,hbo,MEnts.of (by simpa using hzl) hz,hi,hB⟩
theorem sh_int {kt : TypeId} {j : IntKind} (h : P.underlying kt = some (.int j)) : shOf P depth kt = .int j:=by simp [depth,shOf,h]
theorem sh_str {kt : TypeId} (h : P.underlying kt = some .string) : shOf P depth kt = .str:=by simp [depth,shOf,h]
theorem key_cases {kt : TypeId} {k : AV} {u : Value} (hkt : keyT P kt = true) (hk : hasSh (shOf P depth kt) k = true) (hv : VRel w S β k u) :
  (∃ j n,P.underlying kt = some (.int j) ∧ k = .int j n ∧ u = .int j n) ∨ (∃ s : List UInt8,P.underlying kt = some .string ∧ k = .str s ∧ u = .string ⟨s.toArray⟩):=by
 unfold keyT at hkt
 split at hkt
 ·rename_i j ht
  rw [sh_int ht] at hk
  cases k <;> simp [hasSh,has1] at hk
  rename_i j' n
  subst hk
  exact .inl ⟨j,n,ht,rfl,hv.int_inv⟩
 ·rename_i ht
  rw [sh_str ht] at hk
  cases k <;> simp [hasSh,has1] at hk
  rename_i s
  exact .inr ⟨s,ht,rfl,hv.str_inv⟩
 ·cases hkt
theorem run_key {kt : TypeId} {k : AV} {u : Value} (hkt : keyT P kt = true) (hk : hasSh (shOf P depth kt) k = true) (hv : VRel w S β k u) (em : Bool) : ∃ d,P.underlying kt = some d ∧ (Instr.checkKey em 10000 kt u).run P w = .ok () w ∧ IsKey d u:=by
 rcases key_cases hkt hk hv with ⟨j,n,ht,rfl,rfl⟩ | ⟨s,ht,rfl,rfl⟩
 ·exact ⟨_,ht,run_checkKey ht (show IsKey (.int j) (.int j n) from rfl) em 9999,rfl⟩
 ·exact ⟨_,ht,run_checkKey ht (show IsKey .string (.string ⟨s.toArray⟩) from trivial) em 9999,trivial⟩
theorem key_same {kt : TypeId} {d : TypeDesc} {k k' : AV} {u u' : Value} (hd : P.underlying kt = some d) (hkt : keyT P kt = true) (hk : hasSh (shOf P depth kt) k = true) (hv : VRel w S β k u) {S' : Nat → Prop} {β' : Bet} (hk' : hasSh (shOf P depth kt) k' = true) (hv' : VRel w S' β' k' u') :
  Instr.sameNow d u u' = some (keyB k k') ∧ (keyB k k' = true → u' = u):=by
 rcases key_cases hkt hk hv with ⟨j,n,ht,rfl,rfl⟩ | ⟨s,ht,rfl,rfl⟩
 ·rcases key_cases hkt hk' hv' with ⟨j',n',ht',rfl,rfl⟩ | ⟨s',ht',rfl,rfl⟩
  ·rw [ht] at ht' hd
   cases ht'
   cases hd
   refine ⟨by simp [Instr.sameNow,keyB],fun h=>?_⟩
   simp only [keyB,decide_true,Bool.true_and] at h
   rw [eq_of_beq h]
  ·rw [ht] at ht';cases ht'
 ·rcases key_cases hkt hk' hv' with ⟨j',n',ht',rfl,rfl⟩ | ⟨s',ht',rfl,rfl⟩
  ·rw [ht] at ht';cases ht'
  ·rw [ht] at hd
   cases hd
   have e : ((⟨s.toArray⟩ : ByteArray) == ⟨s'.toArray⟩) = (s == s'):=by
    by_cases h : s = s'
    ·subst h
     rw [(bytes_beq _ _).2 rfl]
     simp
    ·have h1 : ¬ ((⟨s.toArray⟩ : ByteArray) == ⟨s'.toArray⟩) = true:=fun hq=>h (by
      have:=(bytes_beq _ _).1 hq
      have:=congrArg (fun z=>z.data.toList) this
      simpa using this)
     have h2 : ¬ (s == s') = true:=fun hq=>h (eq_of_beq hq)
     rw [Bool.eq_false_iff.2 h1,Bool.eq_false_iff.2 h2]
   refine ⟨by simp [Instr.sameNow,keyB,e],fun h=>?_⟩
   simp only [keyB] at h
   rw [eq_of_beq h]
theorem mp_find {kt : TypeId} {d : TypeDesc} {sv : Sh} {k : AV} {u : Value} (hd : P.underlying kt = some d) (hkt : keyT P kt = true) (hk : hasSh (shOf P depth kt) k = true) (hv : VRel w S β k u) : ∀ (es : List AV) (xs : List MapEntry) (i : Nat),MEnts w S es xs → mpOK (shOf P depth kt) sv es = true →
  (mpHas k es = false → Instr.findNow d u xs i = some none) ∧
  (mpHas k es = true → ∃ x : MapEntry,Instr.findNow d u xs i = some (some (i + mpIdx k es,x.val)) ∧ xs[mpIdx k es]? = some x ∧ VRel w S nob (mpGet k es) x.val ∧ hasSh sv (mpGet k es) = true ∧ x.key = u)
 | [],[],i,_,_=>⟨fun _=>rfl,fun h=>by cases h⟩
 | [],_ :: _,_,h,_=>h.elim
 | _ :: _,[],_,h,_=>h.elim
 | e :: es,x :: xs,i,hE,hO=>by
  obtain ⟨h0,hE⟩:=hE
  simp only [mpOK,List.all_cons,Bool.and_eq_true] at hO
  obtain ⟨ho,hO⟩:=hO
  have ih:=mp_find hd hkt hk hv es xs (i + 1) hE hO
  obtain ⟨ek,ev,rfl⟩ : ∃ ek ev,e = .tup [ek,ev]:=by
   unfold mpEnt at ho
   split at ho
   ·exact ⟨_,_,rfl⟩
   ·cases ho
  simp only [mpEnt,Bool.and_eq_true] at ho
  obtain ⟨hek,hev⟩:=tup2_inv h0
  obtain ⟨hs,hsu⟩:=key_same (k':=ek) hd hkt hk hv ho.1 hek
  cases hb : keyB k ek with
  | true =>
   have e1 : mpHas k (.tup [ek,ev] :: es) = true:=by simp [mpHas,mpKey,hb]
   have e2 : mpIdx k (.tup [ek,ev] :: es) = 0:=by simp [mpIdx,mpKey,hb]
   have e3 : mpGet k (.tup [ek,ev] :: es) = ev:=by simp [mpGet,mpKey,mpVal,hb]
   rw [e1,e2,e3]
   refine ⟨fun h=>by (cases h),fun _=>⟨x,?_,rfl,hev,ho.2,hsu hb⟩⟩
   rw [hb] at hs
   simp [Instr.findNow,hs]
  | false =>
   have e1 : mpHas k (.tup [ek,ev] :: es) = mpHas k es:=by simp [mpHas,mpKey,hb]
   have e2 : mpIdx k (.tup [ek,ev] :: es) = mpIdx k es + 1:=by simp [mpIdx,mpKey,hb]
   have e3 : mpGet k (.tup [ek,ev] :: es) = mpGet k es:=by simp [mpGet,mpKey,hb]
   rw [e1,e2,e3]
   rw [hb] at hs
   refine ⟨fun h=>by simpa [Instr.findNow,hs] using ih.1 h,fun h=>?_⟩
   obtain ⟨x',g1,g2,g3,g4,g5⟩:=ih.2 h
   exact ⟨x',by simpa [Instr.findNow,hs,Nat.add_assoc,Nat.add_comm,Nat.add_left_comm] using g1,by simpa using g2,g3,g4,g5⟩
theorem MEnts.push {w : World} {S : Nat → Prop} : ∀ {es : List AV} {xs : List MapEntry} {k v : AV} {x : MapEntry},MEnts w S es xs → VRel w S nob k x.key → VRel w S nob v x.val → MEnts w S (es ++ [.tup [k,v]]) (xs ++ [x])
 | [],[],_,_,_,_,h1,h2=>⟨tup2_rel h1 h2,trivial⟩
 | _ :: _,_ :: _,_,_,_,h,h1,h2=>⟨h.1,MEnts.push h.2 h1 h2⟩
 | [],_ :: _,_,_,_,h,_,_=>h.elim
 | _ :: _,[],_,_,_,h,_,_=>h.elim
theorem MEnts.setVal {w : World} {S : Nat → Prop} {sk sv : Sh} {v : AV} {u : Value} (hv : VRel w S nob v u) : ∀ {es : List AV} {xs : List MapEntry} (i : Nat),mpOK sk sv es = true → MEnts w S es xs → MEnts w S (mpSet v es i) (xs.modify i fun e=>{ e with val:=u })
 | [],[],i,_,_=>by cases i <;> exact trivial
 | e :: es,x :: xs,0,hO,h=>by
  simp only [mpOK,List.all_cons,Bool.and_eq_true] at hO
  obtain ⟨ek,ev,rfl⟩ : ∃ ek ev,e = .tup [ek,ev]:=by
   have:=hO.1
   unfold mpEnt at this
   split at this
   ·exact ⟨_,_,rfl⟩
   ·cases this
  exact ⟨tup2_rel (tup2_inv h.1).1 hv,h.2⟩
 | e :: es,x :: xs,i + 1,hO,h=>by
  simp only [mpOK,List.all_cons,Bool.and_eq_true] at hO
  exact ⟨h.1,MEnts.setVal hv i hO.2 h.2⟩
 | [],_ :: _,_,_,h=>h.elim
 | _ :: _,[],_,_,h=>h.elim
theorem modify_same {xs : List MapEntry} {i : Nat} {x : MapEntry} (hx : xs[i]? = some x) : (xs.modify i fun e=>{ e with key:=x.key }) = xs:=by
 apply List.ext_getElem?
 intro j
 rw [List.getElem?_modify]
 by_cases e : i = j
 ·subst e;rw [hx];simp
 ·simp [e]
theorem modify_same2 {xs : List MapEntry} {i : Nat} {x : MapEntry} {u : Value} (hx : xs[i]? = some x) : (xs.modify i fun e=>{ e with key:=x.key,val:=u }) = xs.modify i fun e=>{ e with val:=u }:=by
 apply List.ext_getElem?
 intro j
 rw [List.getElem?_modify,List.getElem?_modify]
 by_cases e : i = j
 ·subst e;rw [hx];simp
 ·simp [e]
theorem born_modify {xs : List MapEntry} (hb : ∀ (i : Nat) (e : MapEntry),xs[i]? = some e → e.born = i) (n : Nat) (u : Value) : ∀ (i : Nat) (e : MapEntry),(xs.modify n fun e=>{ e with val:=u })[i]? = some e → e.born = i:=fun i e he=>by
 rw [List.getElem?_modify] at he
 cases hx : xs[i]? with
 | none=>rw [hx] at he;cases he
 | some x =>
  rw [hx] at he
  have hbx:=hb i x hx
  simp only [Option.map_eq_map,Option.map_some,Option.some.injEq] at he
  subst he
  split <;> exact hbx
theorem born_push {xs : List MapEntry} (hb : ∀ (i : Nat) (e : MapEntry),xs[i]? = some e → e.born = i) (k u : Value) : ∀ (i : Nat) (e : MapEntry),(xs ++ [{ key:=k,val:=u,born:=xs.length }])[i]? = some e → e.born = i:=fun i e he=>by
 by_cases h : i < xs.length
 ·rw [List.getElem?_append_left h] at he;exact hb i e he
 ·rw [List.getElem?_append_right (by omega)] at he
  have : i - xs.length = 0:=by
   have:=(List.getElem?_eq_some_iff.1 he).1
   simp at this
   omega
  rw [this] at he
  simp at he
  subst he
  show xs.length = i
  omega
theorem born_find {xs : List MapEntry} (hb : ∀ (i : Nat) (e : MapEntry),xs[i]? = some e → e.born = i) {n : Nat} (hn : n < xs.length) : xs.findIdx? (fun e=>(e.born : Int) == (n : Int)) = some n:=by
 rw [List.findIdx?_eq_some_iff_getElem]
 refine ⟨hn,?_,fun j hj=>?_⟩
 ·rw [hb n _ (List.getElem?_eq_getElem hn)];simp
 ·rw [hb j _ (List.getElem?_eq_getElem (by omega))]
  simp
  omega
theorem grown_put (w : World) (g : Nat) (o : Obj) : w.grownBy (w.putObj g o) (some g) :=
 ⟨rfl,rfl,rfl,by rw [World.putObj_size];exact Nat.le_refl _,fun k _ hne=>World.putObj_heap_other (fun e=>hne (by rw [e]))⟩
theorem zeroVal_rel {t : TypeId} {z : AV} (h : zeroVal P t = some z) : ∃ u,(zeroValue t).run P w = .ok u w ∧ VRel w S β z u:=by
 unfold zeroVal at h
 split at h
 ·rename_i i hi
  cases hz : i.zero with
  | none=>rw [hz] at h;cases h
  | some z =>
   rw [hz] at h
   cases h
   exact ⟨z,by simp [zeroValue,typeInfo,hi,hz],ofVal_rel _ z⟩
 ·cases h
theorem zeroAt_rel {b : Bool} {t : TypeId} {z : AV} (h : zeroAt P b t = some z) : ∃ u,(zeroValue t).run P w = .ok u w ∧ VRel w S β z u:=by
 unfold zeroAt at h
 split at h
 ·rename_i hc
  cases h
  simp only [Bool.and_eq_true] at hc
  have hn:=hc.2
  unfold zeroNil at hn
  split at hn
  ·rename_i i hi
   split at hn
   ·rename_i hz
    exact ⟨.slice none 0 0,by simp [zeroValue,typeInfo,hi,hz],.nsl _⟩
   ·cases hn
  ·cases hn
 ·exact zeroVal_rel h
theorem etaV_rel {s : Sh} {v : AV} {u : Value} (hs : hasSh s v = true) (h : VRel w S β v u) : VRel w S β (etaV s v) u:=by
 have one : ∀ (s : Sh),has1 s v = true → etaV s v = eta1 s v → VRel w S β (etaV s v) u:=fun s h1 e=>by rw [e];exact eta1_rel h1 h
 cases s with
 | agg l =>
  cases v <;> simp only [hasSh,Bool.false_eq_true] at hs
  rename_i cs
  cases h with
  | agg _ _ vs hl h1 hh =>
   have:=etas_rel l cs vs hs ⟨hl,hh⟩
   exact .agg _ _ vs this.1 h1 this.2
 | int k=>obtain ⟨e1,_⟩:=has1_cells _ _ hs;exact one _ hs (by simp [etaV,etaCells,e1,Sh.cells,etas,mkAV])
 | bool=>obtain ⟨e1,_⟩:=has1_cells _ _ hs;exact one _ hs (by simp [etaV,etaCells,e1,Sh.cells,etas,mkAV])
 | str=>obtain ⟨e1,_⟩:=has1_cells _ _ hs;exact one _ hs (by simp [etaV,etaCells,e1,Sh.cells,etas,mkAV])
 | slice s=>obtain ⟨e1,_⟩:=has1_cells _ _ hs;exact one _ hs (by simp [etaV,etaCells,e1,Sh.cells,etas,mkAV])
 | other=>obtain ⟨e1,_⟩:=has1_cells _ _ hs;exact one _ hs (by simp [etaV,etaCells,e1,Sh.cells,etas,mkAV])
theorem op_makeMap (hR : Rel w S B β og st a) (hO : Out w0 S0 B w S) (hf : Fresh site st.used) {t : TypeId} (ho : o.op = .makeMap t none) (hy : y { v:=.own site,new:=some (.box false [.mpv []]) } = some r) (hK : Good w0 S0 B site o st y r K) : o.wpR R P a w K Q:=by
 have hb:=below_alloc w (.map #[] 0)
 have hlt : ∀ b,S b → b < (w.alloc (.map #[] 0)).heap.size:=fun b hs=>by have:=hR.Slt b hs;simp;omega
 have hrun : (execOp a.eval o).run P w = .ok (.value (.map (some w.heap.size))) (w.alloc (.map #[] 0)):=by simp [execOp,ho,Instr.makeMap]
 refine wp_value hrun (hK _ _ _ hy ⟨S,_,_,hR.new site hf o.dst hb (fun _ h=>h) (fun _ _ h=>h) hlt (x:=.map (some w.heap.size)) (wd:=1) (o:=some w.heap.size) rfl
  (fun g hg=>by cases hg;simp) ?_ (.own _ site _ _ (upd_same _ _ _)),hO.grow hR.Ble hb⟩)
 exact ⟨w.heap.size,_,_,rfl,upd_same _ _ _,.inr (.inr (.inr ⟨[],World.alloc_heap_new w _,fun i e he=>by simp at he,rfl,rfl⟩)),MEnts.rel (xs:=[]) trivial,fun _ hs=>absurd (hR.Slt _ hs) (Nat.lt_irrefl _),(fun h=>by cases h),fun hB=>Nat.lt_irrefl _ (hR.Ble _ hB)⟩
theorem op_lookup (hR : Rel w S B β og st a) (hO : Out w0 S0 B w S) {rowsV : List (Nat × Row)} (hsub : ∀ id x,lookup rowsV id = some x → lookup st.rows id = some x) {t kt et : TypeId} {x k : Operand} {ok im : Bool} {id : Nat} {es : List AV} (ho : o.op = .lookup t x k ok)
  (hm : mapOf P rowsV t (val st.tm x) = some (kt,et,id,im,es)) (hk : hasSh (shOf P depth kt) (valT P st.tm kt k) = true) (hes : mpOK (shOf P depth kt) (shOf P depth et) es = true) {v : AV}
  (hv : (mpHas (valT P st.tm kt k) es = true ∧ v = etaV (shOf P depth et) (mpGet (valT P st.tm kt k) es)) ∨ (mpHas (valT P st.tm kt k) es = false ∧ ∃ b,zeroAt P b et = some v))
  (hy : y { v:=if ok then .tup [v,.bool (mpHas (valT P st.tm kt k) es)] else v } = some r) (hK : Good w0 S0 B site o st y r K) : o.wpR R P a w K Q:=by
 obtain ⟨ht,hx,hl,hkt⟩:=mapOf_spec hm
 have hxv:=val_rel hR.tm x
 rw [hx] at hxv
 obtain ⟨g,xs,hog,hu,hbt,hh,hbo,hE,_,_⟩:=map_at hR (hsub _ _ hl) hxv
 have hkv:=valT_rel hR.tm P kt k
 obtain ⟨d,hd,hck,_⟩:=run_key hkt hk hkv xs.isEmpty
 have hfm:=mp_find (sv:=shOf P depth et) hd hkt hk hkv es xs 0 hE hes
 obtain ⟨u,hvv,hrun⟩ : ∃ u,VRel w S β v u ∧ (Instr.lookup t (.map (some g)) (a.eval k) ok).run P w = .ok (if ok then .tuple #[u,.bool (mpHas (valT P st.tm kt k) es)] else u) w:=by
  rcases hv with ⟨h1,rfl⟩ | ⟨h1,hz⟩
  ·obtain ⟨x',g1,g2,g3,g4,g5⟩:=hfm.2 h1
   rw [Nat.zero_add] at g1
   refine ⟨x'.val,etaV_rel g4 (g3.mono (fun _ h=>h) (fun _ _=>rfl) (fun _ _ h=>by cases h)),?_⟩
   rw [h1]
   simp [Instr.lookup,run_underlying ht,Go.MapKept.run_getObj_map hh,hck,run_findKey hd g1]
  ·obtain ⟨b,hz⟩:=hz
   obtain ⟨z,hz1,hz2⟩:=zeroAt_rel (w:=w) (S:=S) (β:=β) hz
   refine ⟨z,hz2,?_⟩
   rw [h1]
   simp [Instr.lookup,run_underlying ht,Go.MapKept.run_getObj_map hh,hck,run_findKey hd (hfm.1 h1),hz1]
 refine op_slot (u:=if ok then .tuple #[u,.bool (mpHas (valT P st.tm kt k) es)] else u) hR hO ?_ hy hK (by simp [execOp,ho,hu,hrun])
 cases ok with
 | false=>simpa using hvv
 | true=>exact tup2_rel hvv (.bool _ _)
theorem Rel.setMap (hR : Rel w S B β og st a) {id g : Nat} {es' : List AV} {xs xs' : List MapEntry} (hog : og id = some g) (hbt : β id = some (.map (some g),1)) (hnS : ¬ S g) (hnB : ¬ B g) (hh : w.heap[g]? = some (.map xs.toArray xs.length)) (hbo : ∀ (i : Nat) (e : MapEntry),xs'[i]? = some e → e.born = i)
  (hE : MEnts w S es' xs') : Rel (w.putObj g (.map xs'.toArray xs'.length)) S B β og ⟨st.tm,setRow st.rows id (.box false [.mpv es']),st.used⟩ a:=by
 have hgr:=grown_put w g (.map xs'.toArray xs'.length)
 have hw : ∀ b,S b → (w.putObj g (.map xs'.toArray xs'.length)).heap[b]? = w.heap[b]?:=fun b hs=>hgr.block b (hR.Slt b hs) (fun e=>by cases e;exact hnS hs)
 refine hR.modify (id:=id) (by rw [hog];exact hgr) (World.putObj_size ..) (fun g' hg'=>by rw [hog] at hg';cases hg';exact hnS) ?_
 exact ⟨g,_,_,hog,hbt,.inr (.inr (.inr ⟨xs',(heap_set hh).1,hbo,rfl,rfl⟩)),(hE.keep (fun _ h=>h) hw).rel,fun _=>hnS,(fun h=>by cases h),hnB⟩
theorem run_setObj_put {w : World} {g : Nat} {es : Array MapEntry} {c : Nat} (o : Obj) (hb : w.heap[g]? = some (.map es c)) : (setObj g o).run P w = .ok () (w.putObj g o):=run_setObj_map o hb
theorem key_nob {kt : TypeId} {k : AV} {u : Value} (hkt : keyT P kt = true) (hk : hasSh (shOf P depth kt) k = true) (hv : VRel w S β k u) {w' : World} {S' : Nat → Prop} : VRel w' S' nob k u:=by
 rcases key_cases hkt hk hv with ⟨j,n,ht,rfl,rfl⟩ | ⟨s,ht,rfl,rfl⟩
 ·exact .int _ _ _
 ·exact .str _ _
theorem op_mapUpdate (hR : Rel w S B β og st a) (hO : Out w0 S0 B w S) {rowsV : List (Nat × Row)} (hsub : ∀ id x,lookup rowsV id = some x → lookup st.rows id = some x) {t kt et : TypeId} {m k x : Operand} {id : Nat} {es : List AV} {v' : AV} {ids : List Nat} (ho : o.op = .mapUpdate t m k x)
  (hm : mapOf P rowsV t (val st.tm m) = some (kt,et,id,false,es)) (hk : hasSh (shOf P depth kt) (valT P st.tm kt k) = true) (hpur : pur1 rowsV depth (valT P st.tm et x) = some (v',ids)) (hnid : ids.contains id = false)
  (hes : mpOK (shOf P depth kt) (shOf P depth et) es = true) (hy : y { v:=.undef,mod:=some (id,.box false [.mpv (mpPut (valT P st.tm kt k) v' es)]),imm:=ids } = some r) (hK : Good w0 S0 B site o st y r K) : o.wpR R P a w K Q:=by
 obtain ⟨ht,hx,hl,hkt⟩:=mapOf_spec hm
 have hin : ∀ id ∈ ids,∃ r,lookup st.rows id = some r:=fun id hid=>by obtain ⟨r,hr⟩:=pur1_in _ _ _ hpur id hid;exact ⟨r,hsub _ _ hr⟩
 have hpv:=pur1_sound (w:=w) (S:=S) (B:=B) (β:=β) (og:=og) (rows:=rowsV) (fun id x hx=>hR.row id x (hsub _ _ hx)) depth _ _ _ _ hpur (valT_rel hR.tm P et x)
 have hF:=hR.freeze ids
 have hOF:=hO.freeze hR ids hin
 have hnot : id ∉ ids:=by simpa using hnid
 have hlF : lookup (setImm ids st.rows) id = some (.box false [.mpv es]):=by rw [lookup_setImm,hsub _ _ hl];simp [hnot]
 have hxv:=val_rel hF.tm m
 rw [hx] at hxv
 obtain ⟨g,xs,hog,hu,hbt,hh,hbo,hE,hnS,hnB⟩:=map_at (st:=⟨st.tm,setImm ids st.rows,st.used⟩) hF hlF hxv
 have hkv:=valT_rel hF.tm P kt k
 obtain ⟨d,hd,hck,_⟩:=run_key hkt hk hkv false
 have hfm:=mp_find (sv:=shOf P depth et) hd hkt hk hkv es xs 0 hE hes
 have fin : ∀ (xs' : List MapEntry),(∀ (i : Nat) (e : MapEntry),xs'[i]? = some e → e.born = i) → MEnts w (With S og ids) (mpPut (valT P st.tm kt k) v' es) xs' → (execOp a.eval o).run P w = .ok .skip (w.putObj g (.map xs'.toArray xs'.length)) → o.wpR R P a w K Q:=fun xs' hb' hE' hrun=>by
  have hM:=hF.setMap hog hbt (hnS rfl) hnB hh hb' hE'
  have hM':=hM.congr (rows':=applyRows site { v:=.undef,mod:=some (id,.box false [.mpv (mpPut (valT P st.tm kt k) v' es)]),imm:=ids } st.rows) (fun i=>by
   have : applyRows site { v:=.undef,mod:=some (id,.box false [.mpv (mpPut (valT P st.tm kt k) v' es)]),imm:=ids } st.rows = setImm ids (setRow st.rows id (.box false [.mpv (mpPut (valT P st.tm kt k) v' es)])):=by
    simp only [applyRows,List.foldl_nil]
    cases ids with
    | nil=>rw [setImm_nil]
    | cons i is=>rfl
   rw [this,lookup_setImm,lookup_setRow,lookup_setRow,lookup_setImm]
   by_cases e : i = id
   ·subst e;simp [hnot]
   ·simp [e])
  exact wp_skip' hrun (hK _ _ _ hy ⟨_,β,og,hM'.put o.dst (.undef _),hOF.grownBy hF.Ble (grown_put w g _) (fun k hk=>by cases hk;exact hnB)⟩)
 cases hc : mpHas (valT P st.tm kt k) es with
 | true =>
  obtain ⟨x',g1,g2,g3,g4,g5⟩:=hfm.2 hc
  rw [Nat.zero_add] at g1
  refine fin (xs.modify (mpIdx (valT P st.tm kt k) es) fun e=>{ e with val:=a.eval x }) (born_modify hbo _ _) (by simp only [mpPut,hc,cond_true];exact hE.setVal hpv _ hes) ?_
  have hkc : IsKey d (a.eval k):=by obtain ⟨d',hd',_,h⟩:=run_key (P:=P) hkt hk hkv false;rw [hd] at hd';cases hd';exact h
  have hks : (Instr.keyThatStays (a.eval k) (a.eval k)).run P w = .ok (a.eval k) w:=run_keyThatStays hkc
  have hmod : (xs.modify (mpIdx (valT P st.tm kt k) es) fun e=>{ key:=a.eval k,val:=a.eval x,born:=e.born }) = xs.modify (mpIdx (valT P st.tm kt k) es) fun e=>{ e with val:=a.eval x }:=by
   have:=modify_same2 (u:=a.eval x) g2
   rwa [g5] at this
  simp [execOp,ho,hu,Instr.mapUpdate,run_underlying ht,Go.MapKept.run_getObj_map hh,hck,run_findKey hd g1,g2,g5,hks,hmod,run_setObj_put (P:=P) _ hh]
 | false =>
  refine fin (xs ++ [{ key:=a.eval k,val:=a.eval x,born:=xs.length }]) (born_push hbo _ _) (by simp only [mpPut,hc,cond_false];exact hE.push (key_nob hkt hk hkv) hpv) ?_
  simp [execOp,ho,hu,Instr.mapUpdate,run_underlying ht,Go.MapKept.run_getObj_map hh,hck,run_findKey hd (hfm.1 hc),run_setObj_put (P:=P) _ hh]
theorem op_mapEntry (hR : Rel w S B β og st a) (hO : Out w0 S0 B w S) {rowsV : List (Nat × Row)} (hsub : ∀ id x,lookup rowsV id = some x → lookup st.rows id = some x) {t kt et : TypeId} {m k : Operand} {id : Nat} {es : List AV} (ho : o.op = .mapEntry t m k)
  (hm : mapOf P rowsV t (val st.tm m) = some (kt,et,id,false,es)) (hk : hasSh (shOf P depth kt) (valT P st.tm kt k) = true) (hes : mpOK (shOf P depth kt) (shOf P depth et) es = true) {v : AV} {n : Nat} {es' : List AV}
  (hc : (mpHas (valT P st.tm kt k) es = true ∧ v = etaV (shOf P depth et) (mpGet (valT P st.tm kt k) es) ∧ n = mpIdx (valT P st.tm kt k) es ∧ es' = es) ∨ (mpHas (valT P st.tm kt k) es = false ∧ zeroVal P et = some v ∧ v.flat = true ∧ n = es.length ∧ es' = es ++ [.tup [valT P st.tm kt k,v]]))
  (hy : y { v:=.tup [v,.int .i64 (n : Nat)],mod:=some (id,.box false [.mpv es']) } = some r) (hK : Good w0 S0 B site o st y r K) : o.wpR R P a w K Q:=by
 obtain ⟨ht,hx,hl,hkt⟩:=mapOf_spec hm
 have hxv:=val_rel hR.tm m
 rw [hx] at hxv
 obtain ⟨g,xs,hog,hu,hbt,hh,hbo,hE,hnS,hnB⟩:=map_at hR (hsub _ _ hl) hxv
 have hkv:=valT_rel hR.tm P kt k
 obtain ⟨d,hd,hck,hkc⟩:=run_key hkt hk hkv false
 have hfm:=mp_find (sv:=shOf P depth et) hd hkt hk hkv es xs 0 hE hes
 have fin : ∀ (xs' : List MapEntry) (u : Value),(∀ (i : Nat) (e : MapEntry),xs'[i]? = some e → e.born = i) → MEnts w S es' xs' → (∀ w',(∀ b,S b → w'.heap[b]? = w.heap[b]?) → VRel w' S β v u) → (execOp a.eval o).run P w = .ok (.value (.tuple #[u,.int .i64 (n : Nat)])) (w.putObj g (.map xs'.toArray xs'.length)) → o.wpR R P a w K Q:=fun xs' u hb' hE' hvu hrun=>by
  have hM:=hR.setMap hog hbt (hnS rfl) hnB hh hb' hE'
  have hgr:=grown_put w g (.map xs'.toArray xs'.length)
  have hw : ∀ b,S b → (w.putObj g (.map xs'.toArray xs'.length)).heap[b]? = w.heap[b]?:=fun b hs=>hgr.block b (hR.Slt b hs) (fun e=>by cases e;exact hnS rfl hs)
  exact wp_value hrun (hK _ _ _ hy ⟨_,β,og,hM.put o.dst (tup2_rel (hvu _ hw) (.int _ _ _)),hO.grownBy hR.Ble hgr (fun k hk=>by cases hk;exact hnB)⟩)
 rcases hc with ⟨hc,rfl,rfl,rfl⟩ | ⟨hc,hz,hfl,rfl,rfl⟩
 ·obtain ⟨x',g1,g2,g3,g4,g5⟩:=hfm.2 hc
  rw [Nat.zero_add] at g1
  refine fin xs x'.val hbo hE (fun w' hw=>(etaV_rel g4 g3).mono (fun _ h=>h) hw (fun _ _ h=>by cases h)) ?_
  have hks : (Instr.keyThatStays (a.eval k) (a.eval k)).run P w = .ok (a.eval k) w:=run_keyThatStays hkc
  have hmod : (xs.modify (mpIdx (valT P st.tm kt k) es') fun e=>{ key:=a.eval k,val:=e.val,born:=e.born }) = xs:=by
   have:=modify_same g2
   rwa [g5] at this
  have hbn:=hbo _ _ g2
  simp [execOp,ho,hu,Instr.mapEntry,run_underlying ht,Go.MapKept.run_getObj_map hh,hck,run_findKey hd g1,g2,g5,hks,hmod,run_setObj_put (P:=P) _ hh,goInt,hbn]
 ·obtain ⟨z,hz1,hz2⟩:=zeroVal_rel (w:=w) (S:=S) (β:=β) hz
  refine fin (xs ++ [{ key:=a.eval k,val:=z,born:=xs.length }]) z (born_push hbo _ _) (hE.push (key_nob hkt hk hkv) (flat_free hz2 hfl)) (fun w' hw=>hz2.mono (fun _ h=>h) hw (fun _ _ h=>h)) ?_
  have hle:=hE.len
  simp [execOp,ho,hu,Instr.mapEntry,run_underlying ht,Go.MapKept.run_getObj_map hh,hck,run_findKey hd (hfm.1 hc),hz1,run_setObj_put (P:=P) _ hh,goInt,hle]
theorem op_entryStore (hR : Rel w S B β og st a) (hO : Out w0 S0 B w S) {rowsV : List (Nat × Row)} (hsub : ∀ id x,lookup rowsV id = some x → lookup st.rows id = some x) {t kt et : TypeId} {m s x : Operand} {id : Nat} {es : List AV} {v' : AV} {ids : List Nat} {j : IntKind} {n : Int} (ho : o.op = .entryStore t m s x)
  (hm : mapOf P rowsV t (val st.tm m) = some (kt,et,id,false,es)) (hs : val st.tm s = .int j n) (hpur : pur1 rowsV depth (valT P st.tm et x) = some (v',ids)) (hnid : ids.contains id = false)
  (hes : mpOK (shOf P depth kt) (shOf P depth et) es = true) (hn0 : 0 ≤ n) (hn1 : n < (es.length : Int)) (hy : y { v:=.undef,mod:=some (id,.box false [.mpv (mpSet v' es n.toNat)]),imm:=ids } = some r) (hK : Good w0 S0 B site o st y r K) : o.wpR R P a w K Q:=by
 obtain ⟨ht,hx,hl,hkt⟩:=mapOf_spec hm
 have hin : ∀ id ∈ ids,∃ r,lookup st.rows id = some r:=fun id hid=>by obtain ⟨r,hr⟩:=pur1_in _ _ _ hpur id hid;exact ⟨r,hsub _ _ hr⟩
 have hpv:=pur1_sound (w:=w) (S:=S) (B:=B) (β:=β) (og:=og) (rows:=rowsV) (fun id x hx=>hR.row id x (hsub _ _ hx)) depth _ _ _ _ hpur (valT_rel hR.tm P et x)
 have hF:=hR.freeze ids
 have hOF:=hO.freeze hR ids hin
 have hnot : id ∉ ids:=by simpa using hnid
 have hlF : lookup (setImm ids st.rows) id = some (.box false [.mpv es]):=by rw [lookup_setImm,hsub _ _ hl];simp [hnot]
 have hxv:=val_rel hF.tm m
 rw [hx] at hxv
 have hsv:=val_rel hF.tm s
 rw [hs] at hsv
 obtain ⟨g,xs,hog,hu,hbt,hh,hbo,hE,hnS,hnB⟩:=map_at (st:=⟨st.tm,setImm ids st.rows,st.used⟩) hF hlF hxv
 obtain ⟨i,rfl⟩ : ∃ i : Nat,n = i:=⟨n.toNat,by omega⟩
 have hi : i < xs.length:=by rw [hE.len];omega
 have hM:=hF.setMap hog hbt (hnS rfl) hnB hh (born_modify hbo i (a.eval x)) (hE.setVal hpv i hes)
 rw [List.length_modify] at hM
 simp only [Int.toNat_natCast] at hy
 have hM':=hM.congr (rows':=applyRows site { v:=.undef,mod:=some (id,.box false [.mpv (mpSet v' es i)]),imm:=ids } st.rows) (fun k=>by
  have : applyRows site { v:=.undef,mod:=some (id,.box false [.mpv (mpSet v' es i)]),imm:=ids } st.rows = setImm ids (setRow st.rows id (.box false [.mpv (mpSet v' es i)])):=by
   simp only [applyRows,List.foldl_nil]
   cases ids with
   | nil=>rw [setImm_nil]
   | cons i is=>rfl
  rw [this,lookup_setImm,lookup_setRow,lookup_setRow,lookup_setImm]
  by_cases e : k = id
  ·subst e;simp [hnot]
  ·simp [e])
 have hfi : xs.toArray.findIdx? (fun e=>(e.born : Int) == (i : Int)) = some i:=by simpa using born_find hbo hi
 refine wp_skip' ?_ (hK _ _ _ hy ⟨_,β,og,hM'.put o.dst (.undef _),hOF.grownBy hF.Ble (grown_put w g _) (fun k hk=>by cases hk;exact hnB)⟩)
 simp [execOp,ho,hu,hsv.int_inv,Instr.entryStore,Go.MapKept.run_getObj_map hh,asInt,asIntOf,hfi,run_setObj_put (P:=P) _ hh]
end ops
end Go.Ev
