/-
  The classifier: what Changed comes to, and what Forget's loop comes to, by what is found.
-/
import Derived.Test.YtpgaobdgohlegaaClK
namespace Go.Proofs.Ytpgaobdgohlegaa
open Go.Ev

def nzE (e : AV) : Bool := gOf e != 0 || jOf e != 0
def nzO (e : AV) : Option AV := bif nzE e then some (eT e) else none
theorem eT_x (e : AV) : xOf (eT e) = xOf e := rfl
theorem hitT_x (junk : Bool) (b : Int) (e : AV) : xOf (hitT junk b e) = xOf e := by cases junk <;> rfl
theorem lk_emit (s : List UInt8) (e : AV) (l : List AV) : lk xOf s (emit e l) = if xOf e = s then (bif nzE e then some (eT e) else lk xOf s l) else lk xOf s l := by
  unfold emit nzE
  cases gOf e != 0 || jOf e != 0
  · simp
  · by_cases h : xOf e = s
    · simp [lk, h, eT_x]
    · simp [lk, h, eT_x]
theorem emit_names {e x : AV} {l : List AV} (h : x ∈ emit e l) : xOf x = xOf e ∨ x ∈ l := by
  unfold emit at h
  cases hc : gOf e != 0 || jOf e != 0
  · rw [hc] at h; exact .inr h
  · rw [hc] at h
    rcases List.mem_cons.1 h with h | h
    · exact .inl (by rw [h]; rfl)
    · exact .inr h
theorem srt_emit {e : AV} {l : List AV} (hl : Srt xOf blt l) (h : ∀ x ∈ l, blt (xOf e) (xOf x) = true) : Srt xOf blt (emit e l) := by
  unfold emit
  cases gOf e != 0 || jOf e != 0
  · exact hl
  · exact List.pairwise_cons.2 ⟨fun x hx => h x hx, hl⟩
theorem ind2 {P : List AV → List AV → Prop} (h0 : P [] []) (h1 : ∀ e es, P es [] → P (e :: es) []) (h2 : ∀ t ts, P [] ts → P [] (t :: ts)) (h3 : ∀ e es t ts, P es (t :: ts) → P (e :: es) ts → P es ts → P (e :: es) (t :: ts)) : ∀ es ts, P es ts
  | [], [] => h0
  | e :: es, [] => h1 e es (ind2 h0 h1 h2 h3 es [])
  | [], t :: ts => h2 t ts (ind2 h0 h1 h2 h3 [] ts)
  | e :: es, t :: ts => h3 e es t ts (ind2 h0 h1 h2 h3 es (t :: ts)) (ind2 h0 h1 h2 h3 (e :: es) ts) (ind2 h0 h1 h2 h3 es ts)
termination_by es ts => es.length + ts.length
theorem chg_names (junk : Bool) (b : Int) (es ts : List AV) : ∀ x ∈ chg junk b es ts, (∃ e ∈ es, xOf x = xOf e) ∨ ∃ t ∈ ts, xOf x = xOf t := by
  induction es, ts using ind2 with
  | h0 => intro x hx; rw [chg_nil] at hx; simp at hx
  | h1 e es ih =>
    intro x hx
    rw [chg_l] at hx
    rcases emit_names hx with h | h
    · exact .inl ⟨e, by simp, h⟩
    · rcases ih x h with ⟨y, hy, h⟩ | ⟨y, hy, h⟩
      · exact .inl ⟨y, by simp [hy], h⟩
      · simp at hy
  | h2 t ts ih =>
    intro x hx
    rw [chg_r] at hx
    rcases emit_names hx with h | h
    · exact .inr ⟨t, by simp, by rw [h, hitT_x]; rfl⟩
    · rcases ih x h with ⟨y, hy, h⟩ | ⟨y, hy, h⟩
      · simp at hy
      · exact .inr ⟨y, by simp [hy], h⟩
  | h3 e es t ts ih1 ih2 ih3 =>
    intro x hx
    cases hb : Op.bytesLess (xOf e) (xOf t)
    · cases he : xOf e == xOf t
      · rw [chg_gt hb he] at hx
        rcases emit_names hx with h | h
        · exact .inr ⟨t, by simp, by rw [h, hitT_x]; rfl⟩
        · rcases ih2 x h with ⟨y, hy, h⟩ | ⟨y, hy, h⟩
          · exact .inl ⟨y, hy, h⟩
          · exact .inr ⟨y, by simp [hy], h⟩
      · rw [chg_eq hb he] at hx
        rcases emit_names hx with h | h
        · exact .inl ⟨e, by simp, by rw [h, hitT_x]⟩
        · rcases ih3 x h with ⟨y, hy, h⟩ | ⟨y, hy, h⟩
          · exact .inl ⟨y, by simp [hy], h⟩
          · exact .inr ⟨y, by simp [hy], h⟩
    · rw [chg_lt hb] at hx
      rcases emit_names hx with h | h
      · exact .inl ⟨e, by simp, h⟩
      · rcases ih1 x h with ⟨y, hy, h⟩ | ⟨y, hy, h⟩
        · exact .inl ⟨y, by simp [hy], h⟩
        · exact .inr ⟨y, hy, h⟩
theorem chg_srt (junk : Bool) (b : Int) (es ts : List AV) (hs : Srt xOf blt es) (ht : Srt xOf blt ts) : Srt xOf blt (chg junk b es ts) := by
  induction es, ts using ind2 with
  | h0 => rw [chg_nil]; exact List.Pairwise.nil
  | h1 e es ih =>
    obtain ⟨a1, a2⟩ := List.pairwise_cons.1 hs
    rw [chg_l]
    refine srt_emit (ih a2 ht) fun x hx => ?_
    rcases chg_names _ _ _ _ x hx with ⟨y, hy, h⟩ | ⟨y, hy, h⟩
    · rw [h]; exact a1 y hy
    · simp at hy
  | h2 t ts ih =>
    obtain ⟨b1, b2⟩ := List.pairwise_cons.1 ht
    rw [chg_r]
    refine srt_emit (ih hs b2) fun x hx => ?_
    rw [hitT_x]
    rcases chg_names _ _ _ _ x hx with ⟨y, hy, h⟩ | ⟨y, hy, h⟩
    · simp at hy
    · rw [h]; exact b1 y hy
  | h3 e es t ts ih1 ih2 ih3 =>
    obtain ⟨a1, a2⟩ := List.pairwise_cons.1 hs
    obtain ⟨b1, b2⟩ := List.pairwise_cons.1 ht
    cases hb : Op.bytesLess (xOf e) (xOf t)
    · cases he : xOf e == xOf t
      · rw [chg_gt hb he]
        have hte : blt (xOf t) (xOf e) = true := by
          cases h : blt (xOf t) (xOf e)
          · have := blt_total (show blt (xOf e) (xOf t) = false from hb) h
            rw [this] at he; simp at he
          · rfl
        refine srt_emit (ih2 hs b2) fun x hx => ?_
        rw [hitT_x]
        rcases chg_names _ _ _ _ x hx with ⟨y, hy, h⟩ | ⟨y, hy, h⟩
        · rw [h]
          rcases List.mem_cons.1 hy with hy | hy
          · rw [hy]; exact hte
          · exact blt_trans hte (a1 y hy)
        · rw [h]; exact b1 y hy
      · rw [chg_eq hb he]
        have he' : xOf e = xOf t := by simpa using he
        refine srt_emit (ih3 a2 b2) fun x hx => ?_
        rw [hitT_x]
        rcases chg_names _ _ _ _ x hx with ⟨y, hy, h⟩ | ⟨y, hy, h⟩
        · rw [h]; exact a1 y hy
        · rw [h, he']; exact b1 y hy
    · rw [chg_lt hb]
      refine srt_emit (ih1 a2 ht) fun x hx => ?_
      rcases chg_names _ _ _ _ x hx with ⟨y, hy, h⟩ | ⟨y, hy, h⟩
      · rw [h]; exact a1 y hy
      · rw [h]
        rcases List.mem_cons.1 hy with hy | hy
        · rw [hy]; exact hb
        · exact blt_trans hb (b1 y hy)
/-- What is found behind Changed. -/
def chgO (junk : Bool) (b : Int) (s : List UInt8) (es ts : List AV) : Option AV := if s ∈ ts.map xOf then nzO (hitT junk b ((lk xOf s es).getD (tk s 0 0))) else (lk xOf s es).bind nzO
theorem lk_cons (s : List UInt8) (e : AV) (es : List AV) : lk xOf s (e :: es) = if xOf e = s then some e else lk xOf s es := by
  by_cases h : xOf e = s
  · simp [lk, h]
  · simp [lk, h]
theorem lk_out {s : List UInt8} {es : List AV} (h : ∀ y ∈ es, xOf y ≠ s) : lk xOf s es = none := look_none.2 h
theorem blt_ne' {a b : List UInt8} (h : blt a b = true) : a ≠ b := fun e => by rw [e, blt_irrefl] at h; cases h
theorem chg_lk (junk : Bool) (b : Int) (es ts : List AV) (hs : Srt xOf blt es) (ht : Srt xOf blt ts) (s : List UInt8) : lk xOf s (chg junk b es ts) = chgO junk b s es ts := by
  induction es, ts using ind2 with
  | h0 => rw [chg_nil]; rfl
  | h1 e es ih =>
    obtain ⟨a1, a2⟩ := List.pairwise_cons.1 hs
    rw [chg_l, lk_emit, ih a2 ht]
    unfold chgO
    simp only [List.map_nil, List.not_mem_nil, if_false]
    rw [lk_cons]
    by_cases h : xOf e = s
    · rw [if_pos h, if_pos h, lk_out (s := s) (es := es) fun y hy => h ▸ (blt_ne' (a1 y hy)).symm]
      rfl
    · rw [if_neg h, if_neg h]
  | h2 t ts ih =>
    obtain ⟨b1, b2⟩ := List.pairwise_cons.1 ht
    rw [chg_r, lk_emit, ih hs b2, hitT_x]
    unfold chgO
    have h0 : lk xOf s [] = none := rfl
    rw [h0]
    by_cases h : xOf t = s
    · have hn : s ∉ ts.map xOf := fun hm => by
        obtain ⟨y, hy, hy2⟩ := List.mem_map.1 hm
        exact blt_ne' (b1 y hy) (by rw [hy2, h])
      rw [if_pos (show xOf (tk (xOf t) 0 0) = s from h), if_neg hn, if_pos (by simp [h])]
      subst h
      rfl
    · rw [if_neg (show ¬ xOf (tk (xOf t) 0 0) = s from h)]
      by_cases hm : s ∈ ts.map xOf
      · rw [if_pos hm, if_pos (by simp only [List.map_cons, List.mem_cons]; exact .inr hm)]
      · rw [if_neg hm, if_neg (by simp only [List.map_cons, List.mem_cons]; exact fun h' => h'.elim (fun e => h e.symm) hm)]
  | h3 e es t ts ih1 ih2 ih3 =>
    obtain ⟨a1, a2⟩ := List.pairwise_cons.1 hs
    obtain ⟨b1, b2⟩ := List.pairwise_cons.1 ht
    cases hb : Op.bytesLess (xOf e) (xOf t)
    · cases he : xOf e == xOf t
      · have hte : blt (xOf t) (xOf e) = true := by
          cases h : blt (xOf t) (xOf e)
          · have := blt_total (show blt (xOf e) (xOf t) = false from hb) h
            rw [this] at he; simp at he
          · rfl
        rw [chg_gt hb he, lk_emit, ih2 hs b2, hitT_x]
        unfold chgO
        by_cases h : xOf t = s
        · have hn : s ∉ ts.map xOf := fun hm => by
            obtain ⟨y, hy, hy2⟩ := List.mem_map.1 hm
            exact blt_ne' (b1 y hy) (by rw [hy2, h])
          have hl : lk xOf s (e :: es) = none := lk_out fun y hy => by
            rw [← h]
            rcases List.mem_cons.1 hy with hy | hy
            · rw [hy]; exact (blt_ne' hte).symm
            · exact (blt_ne' (blt_trans hte (a1 y hy))).symm
          rw [if_pos (show xOf (tk (xOf t) 0 0) = s from h), if_neg hn, if_pos (by simp [h]), hl]
          subst h
          rfl
        · rw [if_neg (show ¬ xOf (tk (xOf t) 0 0) = s from h)]
          by_cases hm : s ∈ ts.map xOf
          · rw [if_pos hm, if_pos (by simp only [List.map_cons, List.mem_cons]; exact .inr hm)]
          · rw [if_neg hm, if_neg (by simp only [List.map_cons, List.mem_cons]; exact fun h' => h'.elim (fun e => h e.symm) hm)]
      · have he' : xOf e = xOf t := by simpa using he
        rw [chg_eq hb he, lk_emit, ih3 a2 b2, hitT_x]
        unfold chgO
        rw [lk_cons]
        by_cases h : xOf e = s
        · have hn : s ∉ ts.map xOf := fun hm => by
            obtain ⟨y, hy, hy2⟩ := List.mem_map.1 hm
            exact blt_ne' (b1 y hy) (by rw [hy2, ← h, he'])
          rw [if_pos h, if_neg hn, if_pos (by simp [← h, he']), if_pos h, lk_out (s := s) (es := es) fun y hy => h ▸ (blt_ne' (a1 y hy)).symm]
          rfl
        · rw [if_neg h, if_neg h]
          by_cases hm : s ∈ ts.map xOf
          · rw [if_pos hm, if_pos (by simp only [List.map_cons, List.mem_cons]; exact .inr hm)]
          · rw [if_neg hm, if_neg (by simp only [List.map_cons, List.mem_cons]; exact fun h' => h'.elim (fun e => h (he'.trans e.symm)) hm)]
    · rw [chg_lt hb, lk_emit, ih1 a2 ht]
      unfold chgO
      rw [lk_cons]
      by_cases h : xOf e = s
      · have hn : s ∉ (t :: ts).map xOf := fun hm => by
          obtain ⟨y, hy, hy2⟩ := List.mem_map.1 hm
          rcases List.mem_cons.1 hy with hy | hy
          · exact blt_ne' (show blt (xOf e) (xOf t) = true from hb) (by rw [h, ← hy2, hy])
          · exact blt_ne' (blt_trans (show blt (xOf e) (xOf t) = true from hb) (b1 y hy)) (by rw [h, hy2])
        rw [if_pos h, if_neg hn, if_neg hn, if_pos h, lk_out (s := s) (es := es) fun y hy => h ▸ (blt_ne' (a1 y hy)).symm]
        rfl
      · rw [if_neg h, if_neg h]
/-- Learned is Learn. -/
theorem nzE_of {G J : Int} {e : AV} (h : okT G J e) : nzE e = true := by
  obtain ⟨_, _, _, hz⟩ := h
  unfold nzE
  by_cases hg : gOf e = 0
  · simp [hz hg]
  · simp [hg]
theorem chg_learn {G J : Int} {es ts : List AV} (junk : Bool) (W : Wd G J es) (T : Tk ts) (hc : ∀ e ∈ es, hasSh sK e = true) : chg junk 1 es ts = learnF junk es ts := by
  obtain ⟨l1, l2⟩ := learn_spec junk W.srt T.srt
  refine srt_look_ext bltO (chg_srt junk 1 es ts W.srt T.srt) l1 fun s => ?_
  rw [chg_lk junk 1 es ts W.srt T.srt, l2]
  unfold chgO
  by_cases h : s ∈ ts.map xOf
  · rw [if_pos h, if_pos h]
    unfold bump
    have hp : 0 ≤ gOf ((lk xOf s es).getD (tk s 0 0)) ∧ 0 ≤ jOf ((lk xOf s es).getD (tk s 0 0)) := by
      cases hk : lk xOf s es with
      | none => exact ⟨Int.le_refl _, Int.le_refl _⟩
      | some e => obtain ⟨_, a, b, _⟩ := W.all e (look_mem hk).1; exact ⟨a.1, b.1⟩
    generalize (lk xOf s es).getD (tk s 0 0) = e at hp
    have hn : nzE (hitT junk 1 e) = true := by
      cases junk
      · have : gOf e + 1 ≠ 0 := by omega
        show (gOf e + 1 != 0 || jOf e != 0) = true
        simp [this]
      · have : jOf e + 1 ≠ 0 := by omega
        show (gOf e != 0 || jOf e + 1 != 0) = true
        simp [this]
    unfold nzO
    rw [hn]
    cases junk <;> rfl
  · rw [if_neg h, if_neg h]
    cases hk : lk xOf s es with
    | none => rfl
    | some e =>
      have hm := (look_mem hk).1
      show nzO e = some e
      unfold nzO
      rw [nzE_of (W.all e hm), can_of (hc e hm)]
      rfl
end Go.Proofs.Ytpgaobdgohlegaa
