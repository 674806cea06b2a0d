/-
  The evaluator: operations, regions, code. Definitions alone.
-/
import Derived.Test.YtpgaobdgohlegaaEvA
namespace Go.Ev

def ofCell (s : Sh) : Value → AV
  | .int k n => .int k n
  | .bool b => .bool b
  | .string x => .str x.data.toList
  | .slice none 0 0 => match s with
    | .slice s' => .slz s'
    | _ => .unk
  | _ => .unk
def ofCells : List Sh → List Value → List AV
  | _, [] => []
  | l, v :: vs => ofCell (l.headD .other) v :: ofCells l.tail vs
/-- A value of the program's own text or tables. -/
def ofVal (s : Sh) : Value → AV
  | .agg cs => if cs.toList.all Value.oneCell' then .agg (ofCells s.cells cs.toList) else .unk
  | .tuple vs => if vs.size = 0 then .undef else .unk
  | v => ofCell s v

def valT (P : Program) (tm : List AV) (t : TypeId) : Operand → AV
  | .tmp n => tm.getD n .unk
  | .const v => ofVal (shOf P depth t) v
  | .func f => .fn f []
  | .global _ => .unk

def isAggT (P : Program) (t : TypeId) : Bool :=
  match P.underlying t with
  | some (.struct _) => true
  | some (.array _ _) => true
  | _ => false

/-- Of one cell, or an aggregate: what can be laid into memory. -/
def AV.laidB : AV → Bool
  | .unk | .undef | .tup _ => false
  | _ => true

def splice (cs : List AV) (off : Nat) (new : List AV) : List AV := cs.take off ++ new ++ cs.drop (off + new.length)

def inb (n : Int) (m : Nat) : Bool := decide (0 ≤ n) && decide (n < m)
def slb (l h : Int) (m : Nat) : Bool := decide (0 ≤ l) && (decide (l ≤ h) && decide (h ≤ m))
def roomB (n bytes : Nat) : Bool := decide (n * bytes ≤ 140737488355328) && decide (n ≤ 4611686018427387904)
def lenB (n : Nat) : Bool := decide (n ≤ 9223372036854775807)

def Row.freeze : Row → Row
  | .box _ cs => .box true cs
  | .arr _ s e es sp => .arr true s e es sp
def setImm (ids : List Nat) : List (Nat × Row) → List (Nat × Row)
  | [] => []
  | (i, r) :: rest => (i, if ids.contains i then r.freeze else r) :: setImm ids rest

def fieldOf (P : Program) (t : TypeId) (f : Nat) : Option Field :=
  match P.underlying t with
  | some (.struct fs) => fs[f]?
  | _ => none

/-- The parts of a literal, laid over the zero value's cells. -/
def fillA (place : Nat → Option (Nat × Nat)) (cells : List AV) : List (Nat × AV) → Option (List AV)
  | [] => some cells
  | (i, v) :: rest =>
    match place i with
    | none => none
    | some p =>
      if v.laidB && (v.cells.length == p.2 && Nat.ble (p.1 + v.cells.length) cells.length) then fillA place (splice cells p.1 v.cells) rest else none

def zeroAV (P : Program) (t : TypeId) : Option (List AV) :=
  match P.info? t with
  | some i => match i.zero with
    | some v => if (ofVal (shOf P depth t) v).laidB then some (ofVal (shOf P depth t) v).cells else none
    | none => none
  | none => none

def partTypes (P : Program) (t : TypeId) (i : Nat) : TypeId :=
  match P.underlying t with
  | some (.struct fs) => ((fs[i]?).map (·.type)).getD 0
  | some (.array _ e) => e
  | some (.slice e) => e
  | _ => 0
/-- Every part's type is known. -/
def partsKnown (P : Program) (t : TypeId) : Bool :=
  match P.underlying t with
  | some (.struct fs) => fs.toList.all fun f => (P.info? f.type).isSome
  | some (.array _ e) => (P.info? e).isSome
  | _ => false
def placeOf (P : Program) (t : TypeId) (i : Nat) : Option (Nat × Nat) :=
  match P.underlying t with
  | some (.struct fs) => (fs[i]?).map fun f => (f.offset, P.cellsOf f.type)
  | some (.array _ e) => some (i * P.cellsOf e, P.cellsOf e)
  | _ => none

/-- Which of the elements' literals are given; the others are zero. -/
def fillE (s : Sh) (es : List AV) : List (Nat × AV) → Option (List AV)
  | [] => some es
  | (i, v) :: rest => if hasSh s v && Nat.blt i es.length then fillE s (es.set i v) rest else none

/-- Two structs, field by field: fields of one cell, integers, bools and strings. -/
def eqA (P : Program) : List Field → Nat → List AV → List AV → Option Bool
  | [], _, [], [] => some true
  | f :: fs, n, c :: cs, d :: ds =>
    if (f.name != "_") && (f.offset == n) then
      match P.underlying f.type, c, d with
      | some (.int _), .int k a, .int k' b => if k = k' then (match eqA P fs (n + 1) cs ds with | some r => some ((a == b) && r) | none => none) else none
      | some .bool, .bool a, .bool b => (match eqA P fs (n + 1) cs ds with | some r => some ((a == b) && r) | none => none)
      | some .string, .str a, .str b => (match eqA P fs (n + 1) cs ds with | some r => some ((a == b) && r) | none => none)
      | _, _, _ => none
    else none
  | _, _, _, _ => none
def eqStruct (P : Program) (t : TypeId) (cs ds : List AV) : Option Bool :=
  match P.underlying t with
  | some (.struct fs) => if !P.stoodInHeld t && !P.eqGuardType P.depth t then eqA P fs.toList 0 cs ds else none
  | _ => none

def binInt {ρ : Type} (op : BinOp) (k : IntKind) (a b : Int) (y : AV → Option ρ) : Option ρ :=
  match op with
  | .add => y (.int k (k.wrap (a + b)))
  | .sub => y (.int k (k.wrap (a - b)))
  | .mul => y (.int k (k.wrap (a * b)))
  | .quo => bif decide (b = 0) then none else y (.int k (k.wrap (a.tdiv b)))
  | .rem => bif decide (b = 0) then none else y (.int k (a.tmod b))
  | .and => y (.int k (k.wrap (BitVec.ofInt k.bits a &&& BitVec.ofInt k.bits b).toNat))
  | .or => y (.int k (k.wrap (BitVec.ofInt k.bits a ||| BitVec.ofInt k.bits b).toNat))
  | .xor => y (.int k (k.wrap (BitVec.ofInt k.bits a ^^^ BitVec.ofInt k.bits b).toNat))
  | .eql => y (.bool (a == b))
  | .neq => y (.bool (a != b))
  | .lss => y (.bool (decide (a < b)))
  | .leq => y (.bool (decide (a ≤ b)))
  | .gtr => y (.bool (decide (a > b)))
  | .geq => y (.bool (decide (a ≥ b)))
  | _ => none
def binShift {ρ : Type} (op : BinOp) (k : IntKind) (a b : Int) (y : AV → Option ρ) : Option ρ :=
  match op with
  | .shl => bif decide (b < 0) then none else y (.int k (k.wrap (a * 2 ^ (min b.toNat k.bits))))
  | .shr => bif decide (b < 0) then none else y (.int k (a.fdiv (2 ^ (min b.toNat k.bits))))
  | _ => none
def binStr {ρ : Type} (op : BinOp) (a b : List UInt8) (y : AV → Option ρ) : Option ρ :=
  match op with
  | .add => bif lenB (a.length + b.length) then y (.str (a ++ b)) else none
  | .eql => y (.bool (a == b))
  | .neq => y (.bool !(a == b))
  | .lss => y (.bool (Op.bytesLess a b))
  | .leq => y (.bool (Op.bytesLess a b || a == b))
  | .gtr => y (.bool !(Op.bytesLess a b || a == b))
  | .geq => y (.bool !(Op.bytesLess a b))
  | _ => none
def evBin {ρ : Type} (P : Program) (op : BinOp) (t : TypeId) (x z : AV) (y : AV → Option ρ) : Option ρ :=
  match x, z with
  | .int k a, .int k' b =>
    match op with
    | .shl | .shr => binShift op k a b y
    | _ => if k = k' then binInt op k a b y else none
  | .str a, .str b => binStr op a b y
  | .bool a, .bool b =>
    match P.underlying t with
    | some .bool =>
      match op with
      | .eql => y (.bool (a == b))
      | .neq => y (.bool !(a == b))
      | _ => none
    | _ => none
  | .agg cs, .agg ds =>
    match eqStruct P t cs ds with
    | some r =>
      match op with
      | .eql => y (.bool r)
      | .neq => y (.bool !r)
      | _ => none
    | none => none
  | _, _ => none

def isNilC : Operand → Bool
  | .const (.slice none 0 0) => true
  | _ => false
/-- Whether a slice is nil: unknown where it has no elements. -/
def evNil {ρ : Type} (P : Program) (op : BinOp) (t : TypeId) (x : AV) (y : AV → Option ρ) : Option ρ :=
  match P.underlying t, x with
  | some (.slice _), .slv _ es =>
    match op with
    | .eql => bif es.isEmpty then y .ubool else y (.bool false)
    | .neq => bif es.isEmpty then y .ubool else y (.bool true)
    | _ => none
  | _, _ => none

def minInt (k : IntKind) (x : Int) : List AV → Option Int
  | [] => some x
  | .int k' y :: l => if k = k' then minInt k (if y < x then y else x) l else none
  | _ => none
def maxInt (k : IntKind) (x : Int) : List AV → Option Int
  | [] => some x
  | .int k' y :: l => if k = k' then maxInt k (if y > x then y else x) l else none
  | _ => none

/-- What is known of a function: what it returns for its arguments. -/
abbrev Summ := (ρ : Type) → List AV → (AV → Option ρ) → Option ρ
/-- What is known of a function that writes rows of its caller's, or hands rows back: its arguments, the rows that they lead to; what it returns, what has become of those rows, the new rows. -/
abbrev SummX := (ρ : Type) → List AV → List Row → (AV → List (Option Row) → List Row → Option ρ) → Option ρ
structure Env where
  pure : List (Nat × Summ)
  opens : List (Nat × SummX) := []
  tmpX : Bool := false
  ext : List Nat := []
  fork : Bool := false

def findIn.{u} {α : Type u} (l : List (Nat × α)) (f : Nat) : Option α :=
  match l with
  | [] => none
  | (i, F) :: rest => if i = f then some F else findIn rest f
def find (Γ : Env) (f : Nat) : Option Summ := findIn Γ.pure f
def findX (Γ : Env) (f : Nat) : Option SummX := findIn Γ.opens f

def valsT (P : Program) (tm : List AV) : List TypeId → List Operand → List AV
  | t :: ts, x :: xs => valT P tm t x :: valsT P tm ts xs
  | [], x :: xs => val tm x :: valsT P tm [] xs
  | _, [] => []

def optInt : Option AV → Int → Int
  | some v, _ => v.toInt
  | none, d => d
def optIsInt : Option AV → Bool
  | some (.int _ _) => true
  | none => true
  | _ => false

def elemsOf (rows : List (Nat × Row)) : AV → Option (Sh × List AV)
  | .slv s es => some (s, es)
  | .slz s => some (s, [])
  | .own id => match lookup rows id with
    | some (.arr _ s _ es _) => some (s, es)
    | _ => none
  | .sub id lo n => match lookup rows id with
    | some (.arr _ s _ es _) => if lo + n ≤ es.length then some (s, (es.drop lo).take n) else none
    | _ => none
  | _ => none

/-- What an operation does: the value that it yields, a row of its own that it makes, a row that it changes, a row that it uses up, rows that are not written any more. -/
structure Eff where
  v : AV
  new : Option Row := none
  mod : Option (Nat × Row) := none
  del : Option Nat := none
  imm : List Nat := []
  dels : List Nat := []
  mods : List (Nat × Row) := []
  news : List (Nat × Row) := []

/-- The element type's table row fits its shape: its size is the shape's width, and its zero value has as many cells. -/
def elemOK (P : Program) (e : TypeId) : Bool :=
  match P.info? e with
  | some i => (i.size == (shOf P depth e).width) && (Nat.blt 0 i.size && ((match i.zero with | some z => z.cells.size == i.size | none => false) && (match zeroAV P e with | some z => hass (shOf P depth e).cells z | none => false)))
  | none => false

/-- An element type's size is the shape's width. -/
def sizeOK (P : Program) (e : TypeId) (s : Sh) : Bool := (P.info? e).isSome && P.cellsOf e == s.width

/-- The zero value of an element. -/
def zeroE (P : Program) (e : TypeId) : AV := mkAV (shOf P depth e) ((zeroAV P e).getD [])

def evLen {ρ : Type} (P : Program) (rows : List (Nat × Row)) (t : TypeId) (x : AV) (y : Eff → Option ρ) : Option ρ :=
  match P.underlying t with
  | some .string => match x with
    | .str s => y { v := .int .i64 s.length }
    | _ => none
  | some (.slice _) => match elemsOf rows x with
    | some (_, es) => y { v := .int .i64 es.length }
    | none => none
  | _ => none

def evBuiltin0 {ρ : Type} (P : Program) (site : Nat) (b : Builtin) (ts : List TypeId) (args : List AV) (rows : List (Nat × Row)) (y : Eff → Option ρ) : Option ρ :=
  match b, ts, args with
  | .len, t :: _, [x] => evLen P rows t x y
  | .min, _, .int kk x :: rest => match minInt kk x rest with
    | some n => y { v := .int kk n }
    | none => none
  | .max, _, .int kk x :: rest => match maxInt kk x rest with
    | some n => y { v := .int kk n }
    | none => none
  | .cap, t :: _, [.own id] =>
    match P.underlying t with
    | some (.slice _) =>
      match lookup rows id with
      | some (.arr _ _ _ es (some sp)) => y { v := .int .i64 (es.length + sp.length) }
      | _ => none
    | _ => none
  | .copy, [t, t'], [.sub id lo len, z] =>
    if t' != t then none else
    match P.underlying t with
    | some (.slice e) =>
      match lookup rows id with
      | some (.arr false s e' es sp) =>
        match elemsOf rows z with
        | some (s2, es2) =>
          if Sh.beq s s2 && sizeOK P e s then
            bif decide (lo + len ≤ es.length) then
              y { v := .int .i64 (min len es2.length : Nat), mod := some (id, .arr false s e' (es.take lo ++ (es2.take (min len es2.length) ++ es.drop (lo + min len es2.length))) sp) }
            else none
          else none
        | none => none
      | _ => none
    | _ => none
  | .clear, [t], [.sub id lo len] =>
    match P.underlying t with
    | some (.slice e) =>
      match lookup rows id with
      | some (.arr false s e' es sp) =>
        if Sh.beq s (shOf P depth e) && elemOK P e then
          bif decide (lo + len ≤ es.length) then
            y { v := .undef, mod := some (id, .arr false s e' (es.take lo ++ (List.replicate len (zeroE P e) ++ es.drop (lo + len))) sp) }
          else none
        else none
      | _ => none
    | _ => none
  | .append, [t, t'], [.sub id lo i, .int k n] =>
    match P.underlying t, P.underlying t' with
    | some (.slice e), some (.int k') =>
      match lookup rows id with
      | some (.arr _ s e' es (some sp)) =>
        if (lo == 0) && (decide (k = k') && ((e == e') && (Sh.beq s (shOf P depth e) && elemOK P e))) then
          bif decide (i ≤ es.length) && (decide (0 ≤ n) && (decide (es.length + sp.length < i + n.toNat) && roomB (i + n.toNat) (P.bytesOf e))) then
            y { v := .own site, new := some (.arr false s e (es.take i ++ List.replicate n.toNat (zeroE P e)) none) }
          else none
        else none
      | _ => none
    | _, _ => none
  | .append, [t, t'], [x, z] =>
    if t' != t then none else
    match P.underlying t with
    | some (.slice e) =>
      match elemsOf rows z with
      | none => none
      | some (s2, es2) =>
        match x with
        | .slz s => if Sh.beq s s2 && (Sh.beq s (shOf P depth e) && elemOK P e) then
            bif roomB es2.length (P.bytesOf e) then y { v := .own site, new := some (.arr false s e es2 none) } else none
          else none
        | .own id =>
          match lookup rows id with
          | some (.arr false s e' es _) => if Sh.beq s s2 && (Sh.beq s (shOf P depth e) && (e == e' && elemOK P e)) then
              bif roomB (es.length + es2.length) (P.bytesOf e) then y { v := .own site, new := some (.arr false s e (es ++ es2) none), del := some id } else none
            else none
          | _ => none
        | _ => none
    | _ => none
  | _, _, _ => none

/-- The elements of a slice: what is not known of their number is asked. -/
def elemsK {ρ : Type} (rows : List (Nat × Row)) (v : AV) (k : Sh → List AV → Option ρ) : Option ρ :=
  match v with
  | .slv s es => k s es
  | .slz s => k s []
  | .own id => match lookup rows id with
    | some (.arr _ s _ es _) => k s es
    | _ => none
  | .sub id lo n => match lookup rows id with
    | some (.arr _ s _ es _) => bif decide (lo + n ≤ es.length) then k s ((es.drop lo).take n) else none
    | _ => none
  | _ => none
theorem elemsK_def {ρ : Type} (rows : List (Nat × Row)) (v : AV) (k : Sh → List AV → Option ρ) : elemsK rows v k = match elemsOf rows v with
    | none => none
    | some (s, es) => k s es := by
  cases v with
  | own id =>
    simp only [elemsK, elemsOf]
    cases lookup rows id with
    | none => rfl
    | some r => cases r <;> rfl
  | sub id lo n =>
    simp only [elemsK, elemsOf]
    cases lookup rows id with
    | none => rfl
    | some r =>
      cases r with
      | box i cs => rfl
      | arr i s e es sp =>
        simp only []
        by_cases h : lo + n ≤ es.length
        · rw [if_pos h, decide_eq_true h]; rfl
        · rw [if_neg h, decide_eq_false h]; rfl
  | _ => rfl
def evLenK {ρ : Type} (P : Program) (rows : List (Nat × Row)) (t : TypeId) (x : AV) (y : Eff → Option ρ) : Option ρ :=
  match P.underlying t with
  | some .string => match x with
    | .str s => y { v := .int .i64 s.length }
    | _ => none
  | some (.slice _) => elemsK rows x fun _ es => y { v := .int .i64 es.length }
  | _ => none
theorem evLenK_eq {ρ : Type} (P : Program) (rows : List (Nat × Row)) (t : TypeId) (x : AV) (y : Eff → Option ρ) : evLenK P rows t x y = evLen P rows t x y := by
  unfold evLenK evLen
  simp only [elemsK_def]
  repeat' split
  all_goals first | rfl | simp_all
def evBuiltin {ρ : Type} (P : Program) (site : Nat) (b : Builtin) (ts : List TypeId) (args : List AV) (rows : List (Nat × Row)) (y : Eff → Option ρ) : Option ρ :=
  match b, ts, args with
  | .len, t :: _, [x] => evLenK P rows t x y
  | .min, _, .int kk x :: rest => match minInt kk x rest with
    | some n => y { v := .int kk n }
    | none => none
  | .max, _, .int kk x :: rest => match maxInt kk x rest with
    | some n => y { v := .int kk n }
    | none => none
  | .cap, t :: _, [.own id] =>
    match P.underlying t with
    | some (.slice _) =>
      match lookup rows id with
      | some (.arr _ _ _ es (some sp)) => y { v := .int .i64 (es.length + sp.length) }
      | _ => none
    | _ => none
  | .copy, [t, t'], [.sub id lo len, z] =>
    if t' != t then none else
    match P.underlying t with
    | some (.slice e) =>
      match lookup rows id with
      | some (.arr false s e' es sp) =>
        elemsK rows z fun s2 es2 =>
          if Sh.beq s s2 && sizeOK P e s then
            bif decide (lo + len ≤ es.length) then
              y { v := .int .i64 (min len es2.length : Nat), mod := some (id, .arr false s e' (es.take lo ++ (es2.take (min len es2.length) ++ es.drop (lo + min len es2.length))) sp) }
            else none
          else none
      | _ => none
    | _ => none
  | .clear, [t], [.sub id lo len] =>
    match P.underlying t with
    | some (.slice e) =>
      match lookup rows id with
      | some (.arr false s e' es sp) =>
        if Sh.beq s (shOf P depth e) && elemOK P e then
          bif decide (lo + len ≤ es.length) then
            y { v := .undef, mod := some (id, .arr false s e' (es.take lo ++ (List.replicate len (zeroE P e) ++ es.drop (lo + len))) sp) }
          else none
        else none
      | _ => none
    | _ => none
  | .append, [t, t'], [.sub id lo i, .int k n] =>
    match P.underlying t, P.underlying t' with
    | some (.slice e), some (.int k') =>
      match lookup rows id with
      | some (.arr _ s e' es (some sp)) =>
        if (lo == 0) && (decide (k = k') && ((e == e') && (Sh.beq s (shOf P depth e) && elemOK P e))) then
          bif decide (i ≤ es.length) && (decide (0 ≤ n) && (decide (es.length + sp.length < i + n.toNat) && roomB (i + n.toNat) (P.bytesOf e))) then
            y { v := .own site, new := some (.arr false s e (es.take i ++ List.replicate n.toNat (zeroE P e)) none) }
          else none
        else none
      | _ => none
    | _, _ => none
  | .append, [t, t'], [x, z] =>
    if t' != t then none else
    match P.underlying t with
    | some (.slice e) =>
      elemsK rows z fun s2 es2 =>
        match x with
        | .slz s => if Sh.beq s s2 && (Sh.beq s (shOf P depth e) && elemOK P e) then
            bif roomB es2.length (P.bytesOf e) then y { v := .own site, new := some (.arr false s e es2 none) } else none
          else none
        | .own id =>
          match lookup rows id with
          | some (.arr false s e' es _) => if Sh.beq s s2 && (Sh.beq s (shOf P depth e) && (e == e' && elemOK P e)) then
              bif roomB (es.length + es2.length) (P.bytesOf e) then y { v := .own site, new := some (.arr false s e (es ++ es2) none), del := some id } else none
            else none
          | _ => none
        | _ => none
    | _ => none
  | _, _, _ => none

theorem evBuiltin_eq {ρ : Type} (P : Program) (site : Nat) (b : Builtin) (ts : List TypeId) (args : List AV) (rows : List (Nat × Row)) (y : Eff → Option ρ) : evBuiltin P site b ts args rows y = evBuiltin0 P site b ts args rows y := by
  unfold evBuiltin evBuiltin0
  simp only [elemsK_def, evLenK_eq]
  repeat' split
  all_goals first | rfl | simp_all

def evLoad {ρ : Type} (P : Program) (t : TypeId) (cs : List AV) (y : AV → Option ρ) : Option ρ :=
  if isAggT P t then
    (if Nat.ble (P.cellsOf t) cs.length then y (.agg (cs.take (P.cellsOf t))) else none)
  else if (P.underlying t).isSome then
    match cs with
    | c :: _ => y c
    | [] => none
  else none

/-- A slice of the call's own: it can be looked at in part without being given up. -/
def subOf (x : AV) (mx : Option Operand) (rows : List (Nat × Row)) : Option (Nat × Row) :=
  match x, mx with
  | .own id, none =>
    match lookup rows id with
    | some r => some (id, r)
    | none => none
  | _, _ => none

/-- Its name is not one that the machine answers itself. -/
def entersB (P : Program) (f : FuncId) : Bool :=
  match P.funcs[f]? with
  | some fn => !(fn.name == "runtime.NumGoroutine")
  | none => false

/-- The numbers of a call's rows, for its caller. -/
def newId (site j : Nat) : Nat := site + 4294967296 * (j + 1)
def toP (ids : List Nat) (i : Nat) : Option Nat := (idx ids i).map (PID + ·)
def back (site : Nat) (ids : List Nat) (n : Nat) (i : Nat) : Option Nat :=
  if Nat.blt i PID then none else
  if Nat.blt i RID then ids[i - PID]? else
  if Nat.blt (i - RID) n then some (newId site (i - RID)) else none
def delsOf : List Nat → List (Option Row) → List Nat
  | i :: is, none :: rs => i :: delsOf is rs
  | _ :: is, some _ :: rs => delsOf is rs
  | _, _ => []
def modsOf (m : Nat → Option Nat) : List Nat → List (Option Row) → List (Nat × Row)
  | i :: is, some r :: rs => (i, r.ren m) :: modsOf m is rs
  | _ :: is, none :: rs => modsOf m is rs
  | _, _ => []
def newsOf (m : Nat → Option Nat) (site : Nat) : Nat → List Row → List (Nat × Row)
  | _, [] => []
  | j, r :: rs => (newId site j, r.ren m) :: newsOf m site (j + 1) rs
/-- A call whose arguments' rows are handed over. -/
def evX {ρ : Type} (site : Nat) (F : SummX) (avs : List AV) (rows : List (Nat × Row)) (y : Eff → Option ρ) : Option ρ :=
  match purL (opn1 rows depth) avs with
  | none => none
  | some p =>
    match rowsAt rows (reach rows depth p.1 []) with
    | none => none
    | some q =>
      if nodupB (reach rows depth p.1 []) && Nat.ble (reach rows depth p.1 []).length 1000000 && (p.2 ++ q.2).all (fun i => !(reach rows depth p.1 []).contains i) then
        F ρ (AV.rens (toP (reach rows depth p.1 [])) p.1) (q.1.map (Row.ren (toP (reach rows depth p.1 [])))) fun v prow nrow =>
          if prow.length == (reach rows depth p.1 []).length then
            y { v := v.ren (back site (reach rows depth p.1 []) nrow.length), imm := p.2 ++ q.2, dels := delsOf (reach rows depth p.1 []) prow,
                mods := modsOf (back site (reach rows depth p.1 []) nrow.length) (reach rows depth p.1 []) prow, news := newsOf (back site (reach rows depth p.1 []) nrow.length) site 0 nrow }
          else none
      else none
def xOf (Γ : Env) (f : Operand) (g : Nat) : Option SummX :=
  match f with
  | .func _ => findX Γ g
  | _ => if Γ.tmpX then findX Γ g else none

def evOp {ρ : Type} (P : Program) (Γ : Env) (site : Nat) (o : Oper) (tm : List AV) (rows : List (Nat × Row)) (y : Eff → Option ρ) : Option ρ :=
  match o.op with
  | .move x | .assign x => y { v := valT P tm o.type x }
  | .pick c a b =>
    match val tm c with
    | .bool t => bif t then y { v := valT P tm o.type a } else y { v := valT P tm o.type b }
    | _ => none
  | .alloc t =>
    match zeroAV P t with
    | some cs => y { v := .ptr site 0, new := some (.box false cs) }
    | none => none
  | .box t x =>
    if (valT P tm t x).laidB then y { v := .ptr site 0, new := some (.box false (valT P tm t x).cells) } else none
  | .build t parts =>
    match zeroAV P t with
    | some cs =>
      if partsKnown P t then
        match fillA (placeOf P t) cs (parts.toList.map fun p => (p.1, valT P tm (partTypes P t p.1) p.2)) with
        | some cs' => y { v := .agg cs' }
        | none => none
      else none
    | none => none
  | .buildSlice t len parts =>
    match P.underlying t with
    | some (.slice e) =>
      if len = 0 then (if (P.info? e).isSome && parts.size == 0 then y { v := .slz (shOf P depth e) } else none) else
      if !elemOK P e || (Nat.blt 1000 len || Nat.blt 1000 (P.cellsOf e)) then none else
      match zeroAV P e with
      | some z =>
        match purL (pur1 rows depth) (parts.toList.map fun p => valT P tm e p.2) with
        | some q =>
          match fillE (shOf P depth e) (List.replicate len (mkAV (shOf P depth e) z)) ((parts.toList.map fun p => p.1).zip q.1) with
          | some es => if es.all (hasSh (shOf P depth e)) then y { v := .own site, new := some (.arr false (shOf P depth e) e es none), imm := q.2 } else none
          | none => none
        | none => none
      | none => none
    | _ => none
  | .load t a =>
    match val tm a with
    | .ptr id off => match lookup rows id with
      | some (.box _ cs) => evLoad P t (cs.drop off) fun v => y { v }
      | _ => none
    | .ref cs => evLoad P t cs fun v => y { v }
    | .eref s es i off => evLoad P t ((etaCells s (es.getD i .unk)).drop off) fun v => y { v }
    | .eptr id i off => match lookup rows id with
      | some (.arr _ s _ es _) =>
        bif decide (i < es.length) then evLoad P t ((etaCells s (es.getD i .unk)).drop off) fun v => y { v } else none
      | _ => none
    | _ => none
  | .store t a x =>
    if (valT P tm t x).laidB && ((valT P tm t x).cells.length == P.cellsOf t && P.cellsOf t != 0) then
      match val tm a with
      | .ptr id off => match lookup rows id with
        | some (.box false cs) =>
          if Nat.ble (off + (valT P tm t x).cells.length) cs.length then
            y { v := .undef, mod := some (id, .box false (splice cs off (valT P tm t x).cells)) }
          else none
        | _ => none
      | .eptr id i off =>
        match pur1 rows depth (valT P tm t x) with
        | some p =>
          match lookup rows id with
          | some (.arr false s e es sp) =>
            if !p.2.contains id && (p.1.laidB && (p.1.cells.length == P.cellsOf t && (Nat.ble (off + P.cellsOf t) s.width && hasSh s (mkAV s (splice (etaCells s (es.getD i .unk)) off p.1.cells))))) then
              bif decide (i < es.length) then
                y { v := .undef, mod := some (id, .arr false s e (es.set i (mkAV s (splice (etaCells s (es.getD i .unk)) off p.1.cells))) sp), imm := p.2 }
              else none
            else none
          | _ => none
        | none => none
      | _ => none
    else none
  | .nilCheck x =>
    match val tm x with
    | .ptr id off => y { v := .ptr id off }
    | .eptr id i off => y { v := .eptr id i off }
    | .ref cs => y { v := .ref cs }
    | .eref s es i off => y { v := .eref s es i off }
    | .fn f cs => y { v := .fn f cs }
    | _ => none
  | .binOp op t x z _ => if isNilC z then evNil P op t (valT P tm t x) (fun v => y { v }) else evBin P op t (valT P tm t x) (valT P tm t z) fun v => y { v }
  | .unOp op t x =>
    match op, valT P tm t x with
    | .neg, .int kk n => y { v := .int kk (kk.wrap (0 - n)) }
    | .not, .bool b => y { v := .bool !b }
    | _, _ => none
  | .convert src dst x =>
    match P.underlying src, P.underlying dst, valT P tm src x with
    | some (.int _), some (.int kk), .int _ n => y { v := .int kk (kk.wrap n) }
    | some .string, some .string, .str s => y { v := .str s }
    | _, _, _ => none
  | .makeFunc (.func f) first captured =>
    if first.size = 0 then y { v := .fn f (captured.toList.map (val tm)) } else none
  | .slice t x lo hi mx =>
    if optIsInt (lo.map (val tm)) && optIsInt (hi.map (val tm)) then
      match P.underlying t, val tm x with
      | some .string, .str s =>
        if mx.isNone then
          bif slb (optInt (lo.map (val tm)) 0) (optInt (hi.map (val tm)) s.length) s.length then
            y { v := .str ((s.drop (optInt (lo.map (val tm)) 0).toNat).take ((optInt (hi.map (val tm)) s.length).toNat - (optInt (lo.map (val tm)) 0).toNat)) }
          else none
        else none
      | some (.slice e), x' =>
        match subOf x' mx rows with
        | some (id, .arr im s e' es sp) =>
          if !sizeOK P e s then none else
          if Γ.ext.contains site && lo.isNone then
            match sp, im with
            | some l, false =>
              bif decide ((es.length : Int) ≤ optInt (hi.map (val tm)) es.length) && decide (optInt (hi.map (val tm)) es.length ≤ (es.length : Int) + l.length) then
                y { v := .own site, new := some (.arr false s e' (es ++ l.take ((optInt (hi.map (val tm)) es.length).toNat - es.length)) (some (l.drop ((optInt (hi.map (val tm)) es.length).toNat - es.length)))), del := some id }
              else none
            | _, _ => none
          else
          bif slb (optInt (lo.map (val tm)) 0) (optInt (hi.map (val tm)) es.length) es.length then
            y { v := .sub id (optInt (lo.map (val tm)) 0).toNat ((optInt (hi.map (val tm)) es.length).toNat - (optInt (lo.map (val tm)) 0).toNat) }
          else none
        | some _ => none
        | none =>
        match pur1 rows depth x' with
        | some (.slv s es, ids) =>
          if !sizeOK P e s then none else
          match mx with
          | none =>
            bif slb (optInt (lo.map (val tm)) 0) (optInt (hi.map (val tm)) es.length) es.length then
              y { v := .slv s ((es.drop (optInt (lo.map (val tm)) 0).toNat).take ((optInt (hi.map (val tm)) es.length).toNat - (optInt (lo.map (val tm)) 0).toNat)), imm := ids }
            else none
          | some m =>
            match val tm m with
            | .int _ mm => if mm == 0 && ((optInt (lo.map (val tm)) 0 == 0) && (optInt (hi.map (val tm)) 1 == 0)) then y { v := .slz s } else none
            | _ => none
        | _ => none
      | _, _ => none
    else none
  | .fieldAddr t x f =>
    match fieldOf P t f with
    | some fl =>
      if P.cellsOf fl.type == 0 then none else
      match val tm x with
      | .ptr id off => y { v := .ptr id (off + fl.offset) }
      | .eptr id i off => y { v := .eptr id i (off + fl.offset) }
      | .eref s es i off => y { v := .eref s es i (off + fl.offset) }
      | .ref cs => y { v := .ref (cs.drop fl.offset) }
      | _ => none
    | none => none
  | .field t x f =>
    match fieldOf P t f with
    | some fl =>
      match valT P tm t x with
      | .agg cs =>
        if isAggT P fl.type then
          (if Nat.ble (fl.offset + P.cellsOf fl.type) cs.length then y { v := .agg ((cs.drop fl.offset).take (P.cellsOf fl.type)) } else none)
        else match cs[fl.offset]? with
          | some v => if (P.underlying fl.type).isSome then y { v } else none
          | none => none
      | _ => none
    | none => none
  | .indexAddr t x i =>
    match val tm i with
    | .int _ n =>
      match P.underlying t, val tm x with
      | some (.slice e), .slv s es => if sizeOK P e s then (bif inb n es.length then y { v := .eref s es n.toNat 0 } else none) else none
      | some (.slice e), .own id =>
        match lookup rows id with
        | some (.arr _ s _ es _) => if sizeOK P e s then (bif inb n es.length then y { v := .eptr id n.toNat 0 } else none) else none
        | _ => none
      | some (.slice e), .sub id lo len =>
        match lookup rows id with
        | some (.arr _ s _ es _) => if sizeOK P e s then (bif inb n len && decide (lo + len ≤ es.length) then y { v := .eptr id (lo + n.toNat) 0 } else none) else none
        | _ => none
      | _, _ => none
    | _ => none
  | .index t x i =>
    match val tm i with
    | .int _ n =>
      match P.underlying t, valT P tm t x with
      | some .string, .str s => bif inb n s.length then y { v := .int .u8 ((s.getD n.toNat 0).toNat) } else none
      | some (.array len e), .agg cs =>
        if isAggT P e then none else
        if (P.underlying e).isSome && ((P.cellsOf e == 1) && ((len == cs.length) && cs.all (has1 (shOf P depth e)))) then
          bif inb n len then y { v := eta1 (shOf P depth e) (cs.getD n.toNat .unk) } else none
        else none
      | _, _ => none
    | _ => none
  | .extract x i =>
    match val tm x with
    | .tup vs => match vs[i]? with
      | some v => y { v }
      | none => none
    | _ => none
  | .makeSlice t l c =>
    match P.underlying t, val tm l, val tm c with
    | some (.slice e), .int _ n, .int _ m =>
      if elemOK P e then
        bif (n == m) && (decide (0 ≤ n) && roomB n.toNat (P.bytesOf e)) then y { v := .own site, new := some (.arr false (shOf P depth e) e (List.replicate n.toNat (zeroE P e)) none) } else none
      else none
    | _, _, _ => none
  | .call { callee := .builtin b, args, argTypes } => evBuiltin P site b argTypes.toList (valsT P tm argTypes.toList args.toList) rows y
  | .call { callee := .value f, args, argTypes } =>
    match val tm f with
    | .fn g caps =>
      match xOf Γ f g with
      | some F => if entersB P g then evX site F (valsT P tm argTypes.toList args.toList ++ caps) rows y else none
      | none =>
      match purL (pur1 rows depth) (valsT P tm argTypes.toList args.toList ++ caps) with
      | some p =>
        match find Γ g with
        | some F => if entersB P g then F ρ (AV.nzs p.1) (fun v => y { v, imm := if v.flat then [] else p.2 }) else none
        | none => none
      | none => none
    | _ => none
  | _ => none

def applyRows (site : Nat) (e : Eff) (rows : List (Nat × Row)) : List (Nat × Row) :=
  let r1 := match e.del with
    | some i => delRow rows i
    | none => rows
  let r2 := match e.mod with
    | some p => setRow r1 p.1 p.2
    | none => r1
  let r3 := match e.imm with
    | [] => r2
    | ids => setImm ids r2
  let r4 := match e.new with
    | some r => setRow r3 site r
    | none => r3
  e.news.foldl (fun rs p => setRow rs p.1 p.2) (e.mods.foldl (fun rs p => setRow rs p.1 p.2) (e.dels.foldl delRow r4))
def putTm (tm : List AV) (dst : Option Tmp) (v : AV) : List AV :=
  match dst with
  | some d => tm.set d v
  | none => tm
def apply (site : Nat) (dst : Option Tmp) (e : Eff) (st : St) : St :=
  ⟨putTm st.tm dst e.v, applyRows site e st.rows, e.news.map (·.1) ++ (match e.new with | some _ => site :: st.used | none => st.used)⟩
/-- A new row's number has not been used. -/
def freshB (site : Nat) (e : Eff) (used : List Nat) : Bool :=
  (match e.new with
  | some _ => !used.contains site && Nat.blt site PID
  | none => true) && (e.news.all fun p => !used.contains p.1 && Nat.blt p.1 PID)

def isGuard (ops : List Oper) (i : Nat) : Bool := ops.any fun o => match o.guard with
  | some (j, _) => j == i
  | none => false

/-- A test that later operations hang on is decided at once. -/
def decideAt {ρ : Type} (ops : List Oper) (i : Nat) (dst : Option Tmp) (st : St) (k : St → Option ρ) : Option ρ :=
  if isGuard ops i then
    match dst with
    | some d =>
      match st.tm.getD d .unk with
      | .bool b => bif b then k ⟨st.tm.set d (.bool true), st.rows, st.used⟩ else k ⟨st.tm.set d (.bool false), st.rows, st.used⟩
      | _ => none
    | none => none
  else k st

def guardAt (ops : List Oper) (tm : List AV) (j : Nat) : AV :=
  match ops[j]? with
  | some o => match o.dst with
    | some d => tm.getD d .unk
    | none => .unk
  | none => .unk

def union1 (l : List Nat) (x : Nat) : List Nat := if l.contains x then l else x :: l
/-- Of each operation of a region: those that come before it in every order. -/
def ancFrom : List Oper → List (List Nat) → List (List Nat)
  | [], acc => acc
  | o :: os, acc => ancFrom os (acc ++ [o.after.toList.foldl (fun s e => if Region.binds .any e then (acc.getD e.on []).foldl union1 (union1 s e.on) else s) []])
def ancTab (ops : List Oper) : List (List Nat) := ancFrom ops []

/-- The rows that an operation may look at: those that were there when the region began, and those of operations that come before it in every order. -/
def ofReg (rid i : Nat) : Bool := Nat.blt i PID && (i % 4294967296) / 64 == rid
def visible (rid : Nat) (bef : List Nat) : List (Nat × Row) → List (Nat × Row)
  | [] => []
  | (i, r) :: rest => if !ofReg rid i || bef.contains (i % 64) then (i, r) :: visible rid bef rest else visible rid bef rest

def evOps {ρ : Type} (P : Program) (Γ : Env) (rid : Nat) (ops : List Oper) (bef : Option (List (List Nat))) (k : St → Option ρ) : Nat → List Oper → St → Option ρ
  | _, [], st => k st
  | i, o :: rest, st =>
    match o.guard with
    | none => evOp P Γ (rid * 64 + i) o st.tm (match bef with | none => st.rows | some l => visible rid (l.getD i []) st.rows) fun e =>
        if freshB (rid * 64 + i) e st.used then (apply (rid * 64 + i) o.dst e st).force fun st1 => decideAt ops i o.dst st1 (evOps P Γ rid ops bef k (i + 1) rest) else none
    | some (j, want) =>
      match guardAt ops st.tm j with
      | .bool b => bif b == want then
          evOp P Γ (rid * 64 + i) o st.tm (match bef with | none => st.rows | some l => visible rid (l.getD i []) st.rows) fun e =>
            if freshB (rid * 64 + i) e st.used then (apply (rid * 64 + i) o.dst e st).force fun st1 => decideAt ops i o.dst st1 (evOps P Γ rid ops bef k (i + 1) rest) else none
        else evOps P Γ rid ops bef k (i + 1) rest ⟨putTm st.tm o.dst .undef, st.rows, st.used⟩
      | .undef => evOps P Γ rid ops bef k (i + 1) rest ⟨putTm st.tm o.dst .undef, st.rows, st.used⟩
      | _ => none

/-- It changes a row. -/
def changes (Γ : Env) : Op → Bool
  | .store .. => true
  | .slice _ _ lo _ _ => !Γ.ext.isEmpty && lo.isNone
  | .call { callee := .builtin .append, .. } => true
  | .call { callee := .builtin .copy, .. } => true
  | .call { callee := .builtin .clear, .. } => true
  | .call { callee := .value (.func g), .. } => (findX Γ g).isSome
  | .call { callee := .value _, .. } => Γ.tmpX
  | _ => false
def isConst : Operand → Bool
  | .const _ => true
  | _ => false
/-- It looks at rows, or makes one. -/
def touches (Γ : Env) : Op → Bool
  | .move _ | .assign _ | .pick .. | .build .. | .nilCheck _ | .binOp .. | .unOp .. | .convert .. | .makeFunc .. | .fieldAddr .. | .field .. | .index .. | .extract .. => false
  | .call { callee := .value (.func g), args, .. } => (findX Γ g).isSome || !args.all isConst
  | _ => true
/-- No operation of the region writes this slot. -/
def fixedB (ops : Array Oper) (t : Nat) : Bool := ops.toList.all fun o => match o.dst with
  | some d => !(d == t)
  | none => true
def sepT (ops : Array Oper) (tm : List AV) (s t : Nat) : Bool := fixedB ops s && (fixedB ops t && (match tm.getD s .unk, tm.getD t .unk with
  | .ptr i _, .ptr j _ => !(i == j)
  | _, _ => false))
/-- One looks at a variable, the other writes another one. -/
def sepB (ops : Array Oper) (tm : List AV) (a b : Oper) : Bool :=
  match a.op, b.op with
  | .load _ (.tmp s), .store _ (.tmp t) _ => sepT ops tm s t
  | .store _ (.tmp t) _, .load _ (.tmp s) => sepT ops tm s t
  | _, _ => false
def pairOK (Γ : Env) (ops : Array Oper) (tm : List AV) (a b : Oper) : Bool :=
  Oper.apart ops a b && ((!(changes Γ a.op && touches Γ b.op) && !(touches Γ a.op && changes Γ b.op)) || sepB ops tm a b)
/-- Whatever order the region's edges allow, it comes to the same. -/
def regOK (Γ : Env) (ops : Array Oper) (tm : List AV) : Bool :=
  (List.range ops.size).all fun j =>
    ((ops[j]?).map fun b => b.after.all fun e => !Region.binds .any e || Nat.blt e.on j).getD false &&
    (List.range j).all fun i => ((ancTab ops.toList).getD j []).contains i || (match ops[i]?, ops[j]? with
      | some a, some b => pairOK Γ ops tm a b
      | _, _ => false)

/-- How a state is brought into one form at a loop's head. -/
structure Norm where
  len : Nat
  slots : List Nat
  rows : List Nat := []
  homes : List (Nat × Nat × TypeId) := []
  cells : List (Nat × Nat × Nat × TypeId) := []

def maskFrom (keep ids : List Nat) : Nat → List AV → List AV
  | _, [] => []
  | i, v :: vs => (if keep.contains i then v.only ids else .unk) :: maskFrom keep ids (i + 1) vs
def keepRows (rows : List (Nat × Row)) (ids : List Nat) : List Nat → List (Nat × Row)
  | [] => []
  | i :: is => match lookup rows i with
    | some r => (i, r.only ids) :: keepRows rows ids is
    | none => keepRows rows ids is
/-- Slots and rows that are kept; all else is forgotten. -/
def mask (slots ids : List Nat) (st : St) : St := ⟨maskFrom slots ids 0 st.tm, keepRows st.rows ids ids, ids⟩
def rowIds : List (Nat × Row) → List Nat
  | [] => []
  | (i, _) :: rest => i :: rowIds rest
/-- A row is given up (the slot's number is this mark). -/
def DROP : Nat := 1000000
def dropRow (st : St) (id : Nat) : St := mask (List.range st.tm.length) ((rowIds st.rows).filter fun i => !(i == id)) st
def home1 (st : St) (x : Nat × Nat × TypeId) : St :=
  if x.1 = DROP then dropRow st x.2.1 else
  if st.used.contains x.2.1 || Nat.ble PID x.2.1 then st else
  match st.tm.getD x.1 .unk with
  | .own id =>
    match lookup st.rows id with
    | some r => ⟨st.tm.set x.1 (.own x.2.1), setRow (delRow st.rows id) x.2.1 r, x.2.1 :: st.used⟩
    | none => st
  | .slz s => if Nat.blt 0 s.width then ⟨st.tm.set x.1 (.own x.2.1), setRow st.rows x.2.1 (.arr false s x.2.2 [] none), x.2.1 :: st.used⟩ else st
  | .sub id 0 n =>
    match lookup st.rows id with
    | some (.arr false s e es _) => if Nat.ble n es.length then ⟨st.tm.set x.1 (.own x.2.1), setRow (delRow st.rows id) x.2.1 (.arr false s e (es.take n) none), x.2.1 :: st.used⟩ else st
    | _ => st
  | _ => st
def home2 (st : St) (x : Nat × Nat × Nat × TypeId) : St :=
  if st.used.contains x.2.2.1 || Nat.ble PID x.2.2.1 then st else
  match lookup st.rows x.1 with
  | some (.box im cs) =>
    match cs.getD x.2.1 .unk with
    | .own id =>
      match lookup st.rows id with
      | some r => if id = x.1 then st else ⟨st.tm, setRow (setRow (delRow st.rows id) x.2.2.1 r) x.1 (.box im (cs.set x.2.1 (.own x.2.2.1))), x.2.2.1 :: st.used⟩
      | none => st
    | .slz s => if Nat.blt 0 s.width then ⟨st.tm, setRow (setRow st.rows x.2.2.1 (.arr false s x.2.2.2 [] none)) x.1 (.box im (cs.set x.2.1 (.own x.2.2.1))), x.2.2.1 :: st.used⟩ else st
    | _ => st
  | _ => st
def norm (N : Norm) (st : St) : St :=
  mask N.slots N.rows (N.cells.foldl home2 (N.homes.foldl home1 (mask N.slots (rowIds st.rows) st)))

/-- What is known of a loop: the slots and rows at its head; how it ends, and what they hold then. -/
abbrev LSumm := (ρ : Type) → List AV → List (Option Row) → (Ex → List AV → List (Option Row) → Option ρ) → Option ρ
structure Loop where
  N : Norm
  L : LSumm
def valsOf (N : Norm) (st : St) : List AV := N.slots.map fun i => st.tm.getD i .unk
def rowsN (N : Norm) (st : St) : List (Option Row) := N.rows.map fun i => lookup st.rows i
def setAll : List AV → List Nat → List AV → List AV
  | tm, i :: is, v :: vs => setAll (tm.set i v) is vs
  | tm, _, _ => tm
def putRows : List Nat → List (Option Row) → List (Nat × Row)
  | i :: is, some r :: rs => (i, r) :: putRows is rs
  | _ :: is, none :: rs => putRows is rs
  | _, _ => []
/-- A loop's head: its slots and rows, everything else forgotten. -/
def expand (N : Norm) (vs : List AV) (rs : List (Option Row)) : St := ⟨setAll (List.replicate N.len .unk) N.slots vs, putRows N.rows rs, N.rows⟩
/-- The rounds of a loop. -/
def iter (N : Norm) (body : St → Option (Ex × St)) : Nat → List AV → List (Option Row) → Option (Ex × List AV × List (Option Row))
  | 0, _, _ => none
  | n + 1, vs, rs =>
    match body (expand N vs rs) with
    | none => none
    | some p => if Nat.beq p.2.tm.length N.len then (match p.1 with
      | .normal => iter N body n (valsOf N (norm N p.2)) (rowsN N (norm N p.2))
      | e => some (e, valsOf N (norm N p.2), rowsN N (norm N p.2))) else none

/-- Two ways that come to the same. -/
noncomputable def both {ρ : Type} (a b : Option ρ) : Option ρ := @ite _ (a = b) (Classical.propDecidable _) a none
theorem both_some {ρ : Type} {a b : Option ρ} {r : ρ} (h : both a b = some r) : a = some r ∧ b = some r := by
  unfold both at h
  split at h
  · rename_i e; exact ⟨h, e ▸ h⟩
  · cases h
theorem both_self {ρ : Type} (a : Option ρ) : both a a = a := by unfold both; rw [if_pos rfl]
def firstRegion : Code → Nat
  | .region id _ _ => id
  | .seq a _ => firstRegion a
  | .block _ b => firstRegion b
  | .loop b => firstRegion b
  | .scope b => firstRegion b
  | .cond _ a _ => firstRegion a
  | _ => 0
noncomputable def evC (P : Program) (Γ : Env) (K : List (Nat × Loop)) : Code → (ρ : Type) → St → (Ex → St → Option ρ) → Option ρ
  | .skip, _, st, k => k .normal st
  | .label _, _, st, k => k .normal st
  | .region id ops draw, _, st, k =>
    if Nat.ble ops.size 64 then
      (if draw then
        (if regOK Γ ops st.tm && Nat.blt id 67108864 then evOps P Γ id ops.toList (some (ancTab ops.toList)) (fun st' => k .normal st') 0 ops.toList st else none)
      else evOps P Γ id ops.toList none (fun st' => k .normal st') 0 ops.toList st)
    else none
  | .seq a b, ρ, st, k => evC P Γ K a ρ st fun e st' => match e with
    | .normal => evC P Γ K b ρ st' k
    | e => k e st'
  | .cond c a b, ρ, st, k =>
    match val st.tm c with
    | .bool t => bif t then evC P Γ K a ρ st k else evC P Γ K b ρ st k
    | .ubool => if Γ.fork then both (evC P Γ K a ρ st k) (evC P Γ K b ρ st k) else none
    | _ => none
  | .block id b, ρ, st, k => evC P Γ K b ρ st fun e st' => match e with
    | .exit i => if i = id then k .normal st' else k (.exit i) st'
    | e => k e st'
  | .loop b, ρ, st, k =>
    match findIn K (firstRegion b) with
    | some l =>
      if Nat.beq st.tm.length l.N.len then (norm l.N st).force fun st1 => l.L ρ (valsOf l.N st1) (rowsN l.N st1) fun e vs rs => k e (expand l.N vs rs)
      else none
    | none => none
  | .exit id, _, st, k => k (.exit id) st
  | .ret, _, st, k => k .ret st
  | _, _, _, _ => none

/-- The loops of a text. -/
def loopsOf : Code → List Code
  | .seq a b => loopsOf a ++ loopsOf b
  | .cond _ a b => loopsOf a ++ loopsOf b
  | .block _ b => loopsOf b
  | .loop b => b :: loopsOf b
  | _ => []

/-- The results, read when the call returns. -/
def resultOf (P : Program) (rows : List (Nat × Row)) (tm : List AV) : ResultVar → Option AV
  | .tmp t => some (tm.getD t .unk)
  | .cell t ty =>
    match tm.getD t .unk with
    | .ptr id off => match lookup rows id with
      | some (.box _ cs) => evLoad P ty (cs.drop off) fun v => some v
      | _ => none
    | _ => none
def resultsOf (P : Program) (rows : List (Nat × Row)) (tm : List AV) : List ResultVar → Option (List AV)
  | [] => some []
  | r :: rs => match resultOf P rows tm r with
    | some v => match resultsOf P rows tm rs with
      | some vs => some (v :: vs)
      | none => none
    | none => none
def one : List AV → AV
  | [v] => v
  | vs => .tup vs
def finish {ρ : Type} (P : Program) (fn : Func) (st : St) (k : AV → Option ρ) : Option ρ :=
  match resultsOf P st.rows st.tm fn.results.toList with
  | some vs =>
    match purL (pur1 st.rows depth) vs with
    | some p => k (one (AV.nzs p.1))
    | none => none
  | none => none

/-- A call: the arguments lie in the first slots. -/
noncomputable def evF (P : Program) (Γ : Env) (K : List (Nat × Loop)) (fn : Func) : Summ := fun ρ args k =>
  match fn.body with
  | none => none
  | some c => (St.mk (args ++ List.replicate (fn.ntmps - args.length) .undef) [] []).force fun st => evC P Γ K c ρ st fun e st => match e with
    | .ret => finish P fn st k
    | .normal => finish P fn st k
    | .exit _ => none

def rowsOf (rows : List (Nat × Row)) : List Nat → Option (List Row)
  | [] => some []
  | i :: is =>
    match rowsOf rows is with
    | none => none
    | some q =>
      match lookup rows i with
      | some r => some (r :: q)
      | none => none
/-- What a call hands back: references to rows that are not written any more are replaced by what they hold; its own rows get new numbers. -/
def toR (ids : List Nat) (i : Nat) : Option Nat := if Nat.ble PID i then some i else (idx ids i).map (RID + ·)
def paramRows (rows : List (Nat × Row)) : Nat → Nat → List (Option Row)
  | 0, _ => []
  | n + 1, b => lookup rows b :: paramRows rows n (b + 1)
def cellsOfRows : List (Option Row) → List AV
  | [] => []
  | some (.box false cs) :: rs => cs ++ cellsOfRows rs
  | _ :: rs => cellsOfRows rs
def finishX {ρ : Type} (P : Program) (fn : Func) (np : Nat) (st : St) (k : AV → List (Option Row) → List Row → Option ρ) : Option ρ :=
  match resultsOf P st.rows st.tm fn.results.toList with
  | none => none
  | some vs =>
    match purL (opn1 st.rows depth) vs with
    | none => none
    | some p =>
      match (reach (setImm p.2 st.rows) depth (p.1 ++ cellsOfRows (paramRows (setImm p.2 st.rows) np PID)) []).filter (fun i => Nat.blt i PID) with
      | ids =>
        match rowsOf (setImm p.2 st.rows) ids with
        | none => none
        | some nrow =>
          if nodupB ids && (Nat.ble np 1000000 && Nat.ble ids.length 1000000) then
            k (one (AV.nzs (AV.rens (toR ids) p.1))) ((paramRows (setImm p.2 st.rows) np PID).map fun r => r.map fun r => (r.forget).ren (toR ids)) (nrow.map fun r => (r.forget).ren (toR ids))
          else none
def homeK {ρ : Type} (st : St) (x : Nat × Nat × TypeId) (k : St → Option ρ) : Option ρ :=
  if x.1 = DROP then k (dropRow st x.2.1) else
  if st.used.contains x.2.1 || Nat.ble PID x.2.1 then k st else
  match st.tm.getD x.1 .unk with
  | .sub id 0 n =>
    match lookup st.rows id with
    | some (.arr false s e es _) => bif Nat.ble n es.length then k ⟨st.tm.set x.1 (.own x.2.1), setRow (delRow st.rows id) x.2.1 (.arr false s e (es.take n) none), x.2.1 :: st.used⟩ else none
    | _ => k st
  | _ => k (home1 st x)
def homes {ρ : Type} : List (Nat × Nat × TypeId) → St → (St → Option ρ) → Option ρ
  | [], st, k => k st
  | x :: l, st, k => homeK st x fun st => homes l st k
/-- A call that is handed rows. 'H': slots whose slices become rows of their own when the call returns. -/
noncomputable def evFX (P : Program) (Γ : Env) (K : List (Nat × Loop)) (H : List (Nat × Nat × TypeId)) (fn : Func) : SummX := fun ρ args rows k =>
  match fn.body with
  | none => none
  | some c => (St.mk (args ++ List.replicate (fn.ntmps - args.length) .undef) (zipIds PID rows) (List.range' PID rows.length)).force fun st => evC P Γ K c ρ st fun e st => match e with
    | .ret => homes H st fun st => finishX P fn rows.length st k
    | .normal => homes H st fun st => finishX P fn rows.length st k
    | .exit _ => none

end Go.Ev
