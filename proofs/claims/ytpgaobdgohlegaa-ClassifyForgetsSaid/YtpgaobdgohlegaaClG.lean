/-
  ClassifyInAnyOrder: for every input the call returns true, and the arguments read as before. No condition.
-/
import Derived.Test.YtpgaobdgohlegaaClF
namespace Go.Proofs.Ytpgaobdgohlegaa
open Go.Ev

/-- What Learn returns, in its three parts. -/
def lwG (G J : Int) (es ts : List AV) (junk : Bool) : Int := bif (lrnF G J es ts junk).1 != 0 then 0 else gN junk G
def lwJ (G J : Int) (es ts : List AV) (junk : Bool) : Int := bif (lrnF G J es ts junk).1 != 0 then 0 else jN junk J
def lwE (G J : Int) (es ts : List AV) (junk : Bool) : List AV := bif (lrnF G J es ts junk).1 != 0 then [] else learnF junk es ts
theorem lw_eq (G J : Int) (es ts : List AV) (junk : Bool) : lrnW G J es ts junk = wd (lwG G J es ts junk) (lwJ G J es ts junk) (lwE G J es ts junk) := by
  unfold lrnW lwG lwJ lwE
  cases (lrnF G J es ts junk).1 != 0 <;> rfl
def F12' : List AV → Tr AV
  | [.agg [.int .i64 G, .int .i64 J, .slv (.agg [.str, .int .i64, .int .i64]) es], .slv .str ts, .bool junk] => .gd (small es.length && small ts.length) (.leaf (.tup [wd (lwG G J es ts junk) (lwJ G J es ts junk) (lwE G J es ts junk), fault (lrnF G J es ts junk)]))
  | _ => .no
theorem e12 : ofT F12' = ofT F12 := by
  funext ρ avs k
  show (F12' avs).run k = (F12 avs).run k
  unfold F12' F12
  split
  · rename_i G J es ts junk
    show _ = (Tr.gd (small es.length && small ts.length) (Tr.leaf (.tup [lrnW G J es ts junk, fault (lrnF G J es ts junk)]))).run k
    rw [lw_eq]
  · rename_i x1
    split
    · rename_i G J es ts junk; exact absurd rfl (x1 G J es ts junk)
    · rfl
noncomputable def GM : Env := { G1 with pure := (12, ofT F12') :: GL.pure }
theorem gm : GOK Try.prog GM := GOK.also gl (e12 ▸ ok12)
end Go.Proofs.Ytpgaobdgohlegaa
