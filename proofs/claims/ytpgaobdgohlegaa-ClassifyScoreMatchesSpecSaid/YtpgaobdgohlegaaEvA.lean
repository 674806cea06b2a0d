/-
  An evaluator of the translated code over plain data ('AV'): slices that are only read are lists, local variables and slices of the call's own are rows of a small list. No proof in this text: definitions alone.
-/
import Derived.Orders
import Derived.Below
namespace Go.Ev

/-- The shape of a value: what its type says of its cells. -/
inductive Sh where
  | int (k : IntKind)
  | bool
  | str
  | slice (s : Sh)
  | agg (l : List Sh)
  | other
  deriving Inhabited

mutual
def Sh.beq : Sh → Sh → Bool
  | .int k, .int k' => decide (k = k')
  | .bool, .bool => true
  | .str, .str => true
  | .slice s, .slice s' => Sh.beq s s'
  | .agg l, .agg l' => Sh.beqs l l'
  | _, _ => false
def Sh.beqs : List Sh → List Sh → Bool
  | [], [] => true
  | a :: l, b :: l' => Sh.beq a b && Sh.beqs l l'
  | _, _ => false
end

def Sh.cells : Sh → List Sh
  | .agg l => l
  | s => [s]

def Sh.width (s : Sh) : Nat := s.cells.length

/-- The shape of a type of the program. -/
def shOf (P : Program) : Nat → TypeId → Sh
  | 0, _ => .other
  | n + 1, t =>
    match P.underlying t with
    | some (.int k) => .int k
    | some .bool => .bool
    | some .string => .str
    | some (.slice e) => .slice (shOf P n e)
    | some (.struct fs) => .agg (fs.toList.flatMap fun f => (shOf P n f.type).cells)
    | some (.array m e) => .agg ((List.replicate m (shOf P n e).cells).flatten)
    | _ => .other

def depth : Nat := 12

/-- A value as data. 'unk': nothing is known of it. 'undef': the model's own mark of a slot that was never written. 'ubool': some truth value. 'slv': a slice whose elements nobody writes any more. 'slz': a slice without elements and without room. 'eref': the address of a cell of an element of such a slice. 'ref': the address of cells that nobody writes. 'ptr', 'eptr', 'own', 'sub': a cell of a row of the call's own, a cell of an element of one, the slice that is the whole of one, a part of that slice. -/
inductive AV where
  | unk
  | undef
  | int (k : IntKind) (n : Int)
  | bool (b : Bool)
  | ubool
  | str (s : List UInt8)
  | agg (cs : List AV)
  | tup (cs : List AV)
  | slv (s : Sh) (es : List AV)
  | slz (s : Sh)
  | eref (s : Sh) (es : List AV) (i off : Nat)
  | ref (cs : List AV)
  | ptr (id off : Nat)
  | eptr (id i off : Nat)
  | own (id : Nat)
  | sub (id lo len : Nat)
  | fn (f : Nat) (caps : List AV)
  deriving Inhabited

def AV.toInt : AV → Int
  | .int _ n => n
  | _ => 0
def AV.toBool : AV → Bool
  | .bool b => b
  | _ => false
def AV.toStr : AV → List UInt8
  | .str s => s
  | _ => []
def AV.toList : AV → List AV
  | .slv _ es => es
  | _ => []
def AV.cells : AV → List AV
  | .agg cs => cs
  | v => [v]
def AV.cell (v : AV) (j : Nat) : AV := v.cells.getD j .unk

/-- A value of one cell, written out by its shape. -/
def eta1 : Sh → AV → AV
  | .int k, v => .int k v.toInt
  | .bool, v => .bool v.toBool
  | .str, v => .str v.toStr
  | .slice s, v => .slv s v.toList
  | _, v => v
def etas : List Sh → List AV → List AV
  | [], _ => []
  | s :: l, cs => eta1 s (cs.headD .unk) :: etas l cs.tail
/-- The cells of an element, written out by its shape. -/
def etaCells (s : Sh) (v : AV) : List AV := etas s.cells v.cells
def mkAV (s : Sh) (cs : List AV) : AV :=
  match s with
  | .agg _ => .agg cs
  | _ => cs.headD .unk

def has1 : Sh → AV → Bool
  | .int k, .int k' _ => decide (k = k')
  | .bool, .bool _ => true
  | .str, .str _ => true
  | .slice s, .slv s' _ => Sh.beq s s'
  | .slice s, .slz s' => Sh.beq s s'
  | _, _ => false
def hass : List Sh → List AV → Bool
  | [], [] => true
  | s :: l, c :: cs => has1 s c && hass l cs
  | _, _ => false
/-- The value has the shape. -/
def hasSh (s : Sh) (v : AV) : Bool :=
  match s, v with
  | .agg l, .agg cs => hass l cs
  | .agg _, _ => false
  | s, v => has1 s v

/-- A row of the call's own: a variable ('box') or the array of a slice ('arr'); 'imm': it is not written any more; 'sp': what lies behind the elements, where that is known. -/
inductive Row where
  | box (imm : Bool) (cs : List AV)
  | arr (imm : Bool) (s : Sh) (e : TypeId) (es : List AV) (sp : Option (List AV))
  deriving Inhabited

structure St where
  tm : List AV
  rows : List (Nat × Row)
  used : List Nat

inductive Ex where
  | normal
  | exit (id : Nat)
  | ret


def lookup (rows : List (Nat × Row)) (id : Nat) : Option Row :=
  match rows with
  | [] => none
  | (i, r) :: rest => if i = id then some r else lookup rest id
def delRow (rows : List (Nat × Row)) (id : Nat) : List (Nat × Row) :=
  match rows with
  | [] => []
  | (i, x) :: rest => if i = id then delRow rest id else (i, x) :: delRow rest id
def setRow (rows : List (Nat × Row)) (id : Nat) (r : Row) : List (Nat × Row) :=
  match rows with
  | [] => [(id, r)]
  | (i, x) :: rest => if i = id then (i, r) :: rest else (i, x) :: setRow rest id r

/-- Values without addresses, out of the program's own constants. -/
def ofLit : Value → AV
  | .int k n => .int k n
  | .bool b => .bool b
  | .string s => .str s.data.toList
  | _ => .unk

/-- The zero value of a shape, in cells. -/
def zero1 : Sh → AV
  | .int k => .int k 0
  | .bool => .bool false
  | .str => .str []
  | .slice s => .slz s
  | _ => .unk
def zeroCells (s : Sh) : List AV := s.cells.map zero1

def val (tm : List AV) : Operand → AV
  | .tmp t => tm.getD t .unk
  | .const v => ofLit v
  | .func f => .fn f []
  | .global _ => .unk

def put (st : St) (dst : Option Tmp) (v : AV) : St :=
  match dst with
  | some d => { st with tm := st.tm.set d v }
  | none => st

/- No reference to a row. -/
mutual
def AV.pureB : AV → Bool
  | .ptr .. | .eptr .. | .own .. | .sub .. | .unk => false
  | .agg cs | .tup cs | .fn _ cs => AV.pureBs cs
  | _ => true
def AV.pureBs : List AV → Bool
  | [] => true
  | c :: cs => c.pureB && AV.pureBs cs
end

/- Nothing in it leads to memory. -/
mutual
def AV.flat : AV → Bool
  | .int .. | .bool _ | .str _ | .undef => true
  | .agg cs | .tup cs => AV.flats cs
  | _ => false
def AV.flats : List AV → Bool
  | [] => true
  | c :: cs => c.flat && AV.flats cs
end

/- References to rows that are not listed are forgotten. -/
mutual
def AV.only (ids : List Nat) : AV → AV
  | .ptr i o => if ids.contains i then .ptr i o else .unk
  | .eptr i j o => if ids.contains i then .eptr i j o else .unk
  | .own i => if ids.contains i then .own i else .unk
  | .sub i lo n => if ids.contains i then .sub i lo n else .unk
  | .agg cs => .agg (AV.onlys ids cs)
  | .tup cs => .tup (AV.onlys ids cs)
  | .fn f cs => .fn f (AV.onlys ids cs)
  | v => v
def AV.onlys (ids : List Nat) : List AV → List AV
  | [] => []
  | c :: cs => c.only ids :: AV.onlys ids cs
end
def Row.only (ids : List Nat) : Row → Row
  | .box i cs => .box i (AV.onlys ids cs)
  | r => r

/- A slice without elements is a slice without elements. -/
mutual
def AV.nz : AV → AV
  | .slz s => .slv s []
  | .agg cs => .agg (AV.nzs cs)
  | .tup cs => .tup (AV.nzs cs)
  | v => v
def AV.nzs : List AV → List AV
  | [] => []
  | c :: cs => c.nz :: AV.nzs cs
end

/- Evaluation by hand: the same value, its constructors brought forth. -/
mutual
def AV.force {α : Type} : AV → (AV → α) → α
  | .unk, k => k .unk
  | .undef, k => k .undef
  | .int a b, k => k (.int a b)
  | .bool b, k => k (.bool b)
  | .ubool, k => k .ubool
  | .str s, k => k (.str s)
  | .agg cs, k => AV.forces cs fun cs' => k (.agg cs')
  | .tup cs, k => AV.forces cs fun cs' => k (.tup cs')
  | .slv s es, k => k (.slv s es)
  | .slz s, k => k (.slz s)
  | .eref s es i off, k => k (.eref s es i off)
  | .ref cs, k => AV.forces cs fun cs' => k (.ref cs')
  | .ptr id off, k => k (.ptr id off)
  | .eptr id i off, k => k (.eptr id i off)
  | .own id, k => k (.own id)
  | .sub id lo n, k => k (.sub id lo n)
  | .fn f cs, k => AV.forces cs fun cs' => k (.fn f cs')
def AV.forces {α : Type} : List AV → (List AV → α) → α
  | [], k => k []
  | c :: cs, k => c.force fun c' => AV.forces cs fun cs' => k (c' :: cs')
end
def Row.force {α : Type} : Row → (Row → α) → α
  | .box i cs, k => AV.forces cs fun cs' => k (.box i cs')
  | .arr i s e es sp, k => k (.arr i s e es sp)
def forceRows {α : Type} : List (Nat × Row) → (List (Nat × Row) → α) → α
  | [], k => k []
  | (i, r) :: rest, k => r.force fun r' => forceRows rest fun rest' => k ((i, r') :: rest')
def forceL {α : Type} : List Nat → (List Nat → α) → α
  | [], k => k []
  | i :: l, k => forceL l fun l' => k (i :: l')
def St.force {α : Type} (st : St) (k : St → α) : α := AV.forces st.tm fun tm => forceRows st.rows fun rows => forceL st.used fun used => k ⟨tm, rows, used⟩

def purL (f : AV → Option (AV × List Nat)) : List AV → Option (List AV × List Nat)
  | [] => some ([], [])
  | c :: cs =>
    match f c with
    | none => none
    | some p => match purL f cs with
      | none => none
      | some q => some (p.1 :: q.1, p.2 ++ q.2)

/-- A value in which every reference to a row is replaced by what the row holds; with the rows that were met. -/
def pur1 (rows : List (Nat × Row)) : Nat → AV → Option (AV × List Nat)
  | 0, _ => none
  | n + 1, v =>
    match v with
    | .ptr id off =>
      match lookup rows id with
      | some (.box _ cs) => (purL (pur1 rows n) cs).map fun p => (.ref (p.1.drop off), id :: p.2)
      | _ => none
    | .eptr id i off =>
      match lookup rows id with
      | some (.arr _ s _ es _) => if i < es.length then some (.eref s es i off, [id]) else none
      | _ => none
    | .own id =>
      match lookup rows id with
      | some (.arr _ s _ es _) => some (.slv s es, [id])
      | _ => none
    | .sub id lo n =>
      match lookup rows id with
      | some (.arr _ s _ es _) => if lo + n ≤ es.length then some (.slv s ((es.drop lo).take n), [id]) else none
      | _ => none
    | .unk => none
    | .agg cs => (purL (pur1 rows n) cs).map fun p => (.agg p.1, p.2)
    | .tup cs => (purL (pur1 rows n) cs).map fun p => (.tup p.1, p.2)
    | .fn f cs => (purL (pur1 rows n) cs).map fun p => (.fn f p.1, p.2)
    | v => some (v, [])

/-- The numbers of the rows that a call is handed, and of those that it hands back; the numbers of all other rows are smaller. -/
def PID : Nat := 1125899906842624
def RID : Nat := 2251799813685248

/- Rows get other numbers; those that get none are forgotten. -/
mutual
def AV.ren (m : Nat → Option Nat) : AV → AV
  | .ptr i o => match m i with
    | some j => .ptr j o
    | none => .unk
  | .eptr i k o => match m i with
    | some j => .eptr j k o
    | none => .unk
  | .own i => match m i with
    | some j => .own j
    | none => .unk
  | .sub i lo n => match m i with
    | some j => .sub j lo n
    | none => .unk
  | .agg cs => .agg (AV.rens m cs)
  | .tup cs => .tup (AV.rens m cs)
  | .fn f cs => .fn f (AV.rens m cs)
  | v => v
def AV.rens (m : Nat → Option Nat) : List AV → List AV
  | [] => []
  | c :: cs => c.ren m :: AV.rens m cs
end
def Row.ren (m : Nat → Option Nat) : Row → Row
  | .box i cs => .box i (AV.rens m cs)
  | r => r
/-- What lies behind the elements is forgotten. -/
def Row.forget : Row → Row
  | .arr i s e es _ => .arr i s e es none
  | r => r
mutual
def AV.refs : AV → List Nat
  | .ptr i _ => [i]
  | .eptr i _ _ => [i]
  | .own i => [i]
  | .sub i _ _ => [i]
  | .agg cs => AV.refss cs
  | .tup cs => AV.refss cs
  | .fn _ cs => AV.refss cs
  | _ => []
def AV.refss : List AV → List Nat
  | [] => []
  | c :: cs => c.refs ++ AV.refss cs
end
def idx : List Nat → Nat → Option Nat
  | [], _ => none
  | x :: l, i => if i = x then some 0 else (idx l i).map (· + 1)

/-- A value in which every reference to a row that is not written any more is replaced by what the row holds. -/
def opn1 (rows : List (Nat × Row)) : Nat → AV → Option (AV × List Nat)
  | 0, _ => none
  | n + 1, v =>
    match v with
    | .ptr id off =>
      match lookup rows id with
      | some (.box false _) => some (.ptr id off, [])
      | some (.box true _) => pur1 rows depth (.ptr id off)
      | _ => none
    | .eptr id i off =>
      match lookup rows id with
      | some (.arr false ..) => some (.eptr id i off, [])
      | some (.arr true ..) => pur1 rows depth (.eptr id i off)
      | _ => none
    | .own id =>
      match lookup rows id with
      | some (.arr false ..) => some (.own id, [])
      | some (.arr true ..) => pur1 rows depth (.own id)
      | _ => none
    | .sub id lo m =>
      match lookup rows id with
      | some (.arr false ..) => some (.sub id lo m, [])
      | some (.arr true ..) => pur1 rows depth (.sub id lo m)
      | _ => none
    | .agg cs => (purL (opn1 rows n) cs).map fun p => (.agg p.1, p.2)
    | .tup cs => (purL (opn1 rows n) cs).map fun p => (.tup p.1, p.2)
    | .fn f cs => (purL (opn1 rows n) cs).map fun p => (.fn f p.1, p.2)
    | v => some (v, [])

/-- The rows that can be reached and that are still written. -/
def reachF (rows : List (Nat × Row)) (f : List AV → List Nat → List Nat) : List Nat → List Nat → List Nat
  | [], acc => acc
  | i :: is, acc =>
    if acc.contains i then reachF rows f is acc else
    match lookup rows i with
    | some (.box false cs) => reachF rows f is (f cs (acc ++ [i]))
    | some (.arr false ..) => reachF rows f is (acc ++ [i])
    | _ => reachF rows f is acc
def reach (rows : List (Nat × Row)) : Nat → List AV → List Nat → List Nat
  | 0, _, acc => acc
  | n + 1, avs, acc => reachF rows (reach rows n) (AV.refss avs) acc
def nodupB : List Nat → Bool
  | [] => true
  | i :: is => !is.contains i && nodupB is
def rowsAt (rows : List (Nat × Row)) : List Nat → Option (List Row × List Nat)
  | [] => some ([], [])
  | i :: is =>
    match rowsAt rows is with
    | none => none
    | some q =>
      match lookup rows i with
      | some (.box false cs) =>
        match purL (opn1 rows depth) cs with
        | some p => some (.box false p.1 :: q.1, p.2 ++ q.2)
        | none => none
      | some (.arr false s e es sp) => some (.arr false s e es sp :: q.1, q.2)
      | _ => none
def zipIds (b : Nat) : List Row → List (Nat × Row)
  | [] => []
  | r :: rs => (b, r) :: zipIds (b + 1) rs

end Go.Ev
