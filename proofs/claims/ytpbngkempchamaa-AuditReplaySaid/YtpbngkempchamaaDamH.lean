/- The engine, part H: an abstract machine for the program's functions, proved right against the model. No condition. -/
import Derived.Test.YtpbngkempchamaaDamG
import GoSem.Dispatch
set_option linter.unusedSectionVars false
set_option linter.unusedVariables false
set_option linter.unusedSimpArgs false
namespace Go.Dam
open Go Go.RowKit
set_option linter.unusedSectionVars false
variable [Glo]
set_option linter.unusedSimpArgs false
set_option linter.unusedVariables false

/-- What an operation does. -/
inductive Eff where
  | val (d : D)
  | box (cs : List D)
  | row (cs : List D) (n sz : Nat)
  | row0
  | sto (id off : Nat) (ds : List D)
  | app (dst : D) (sz m : Nat) (ds : List D)
  | cpy (id off : Nat) (ds : List D) (u : Value)

/-- The cells of a value. -/
def D.cells : D → Option (List D)
  | .agg cs => some cs
  | .v x => some (x.cells.toList.map .v)
  | .sh n cs => some [.sh n cs]
  | .sl id off n sz => some [.sl id off n sz]
  | .ptr id off => some [.ptr id off]
  | .shp cs off => some [.shp cs off]
  | .emp => some [.emp]
  | .fn f cs => some [.fn f cs]
  | .rc cs => some [.rc cs]
  | .pel id i n j => some [.pel id i n j]
  | _ => none

def D.one : D → Bool
  | .v x => x.oneCell'
  | .emp | .sh _ _ | .sl _ _ _ _ | .ptr _ _ | .shp _ _ | .fn _ _ | .rc _ | .pel _ _ _ _ => true
  | _ => false

def infoD (P : Program) (t : TypeId) : Option (Nat × TypeDesc) :=
  match P.info? t, P.underlying t with
  | some i, some d => some (i.size, d)
  | _, _ => none

def aggD : TypeDesc → Bool
  | .struct _ | .array _ _ => true
  | _ => false

/-- Cells behind a pointer: the list, and where it points. -/
def D.behind (bk : Nat → Option Blk) : D → Option (List D × Nat)
  | .ptr id off => (bk id).map fun b => (b.cells, off)
  | .pel id i n j => (bk id).map fun b => (b.cells, i * n + j)
  | .shp cs off => some (cs, off)
  | _ => none

def takeD (P : Program) (t : TypeId) (cs : List D) (off : Nat) : Option D :=
  match infoD P t with
  | none => none
  | some (sz, d) =>
    if aggD d then (if 0 < sz ∧ off + sz ≤ cs.length then some (.agg ((cs.drop off).take sz)) else none)
    else cs[off]?

def loadD (P : Program) (bk : Nat → Option Blk) (t : TypeId) (a : D) : Option Eff :=
  match a.behind bk with
  | none => none
  | some (cs, off) => (takeD P t cs off).map .val

def storeD (P : Program) (t : TypeId) (a x : D) : Option Eff :=
  match a, x.cells, P.info? t with
  | .ptr id off, some ds, some i => if ds.length = i.size ∧ ds.all D.one then some (.sto id off ds) else none
  | .pel id i0 n j, some ds, some i => if ds.length = i.size ∧ ds.all D.one then some (.sto id (i0 * n + j) ds) else none
  | _, _, _ => none

def zeroD (P : Program) (t : TypeId) : Option (List D) :=
  match P.info? t with
  | none => none
  | some i => match i.zero with
    | none => none
    | some z => some (z.cells.toList.map .v)

/-- Parts put into a row of cells. -/
def fillD (place : Nat → Option (Nat × Nat)) (cells : List D) : List (Nat × D) → Option (List D)
  | [] => some cells
  | (i, x) :: rest =>
    match place i, x.cells with
    | some (off, size), some ds => if ds.length = size ∧ off + size ≤ cells.length then fillD place (splice cells off ds) rest else none
    | _, _ => none

def buildD (P : Program) (t : TypeId) (parts : List (Nat × D)) : Option Eff :=
  match zeroD P t, P.underlying t with
  | some zero, some (.struct fields) =>
    if fields.toList.all (fun f => (P.info? f.type).isSome) then
      (fillD (fun i => (fields.toList.map fun f => (f.offset, ((P.info? f.type).map (·.size)).getD 0))[i]?) zero parts).map fun cs => .val (.agg cs)
    else none
  | some zero, some (.array _ elem) =>
    match P.info? elem with
    | none => none
    | some j => (fillD (fun i => some (i * j.size, j.size)) zero parts).map fun cs => .val (.agg cs)
  | _, _ => none

def pureD (P : Program) (s : Sem Value) : Option Eff := (pureRun P s).map fun u => .val (D.ofV u)

def indexOf : D → Option Int
  | .v (.int _ i) => some i
  | _ => none

/-- A cell of a column. -/
def Col.cell (i : Nat) : Col → D
  | .ints k xs => .v (.int k (xs.getD i 0))
  | .bools xs => .v (.bool (xs.getD i false))
  | .rows _ f => .rc ((f i).map Col0.up)

/-- A part of a column. -/
def Col.part (l n : Nat) : Col → Col
  | .ints k xs => .ints k ((xs.drop l).take n)
  | .bools xs => .bools ((xs.drop l).take n)
  | .rows _ f => .rows n fun i => f (i + l)

/-- All cells of a row. -/
def rowCells (cs : List Col) : List D := (List.range (rowLen cs)).flatMap fun i => cs.map (Col.cell i)

abbrev rowCells0 (cs : List Col0) : List D := rowCells (cs.map Col0.up)

/-- An element of a row that came in. -/
def rcAddrD (P : Program) (t : TypeId) (cs : List Col) (ix : D) : Option Eff :=
  match P.underlying t, indexOf ix with
  | some (.slice elem), some i => match P.info? elem with
    | none => none
    | some j => if j.size = cs.length ∧ 0 ≤ i ∧ i < rowLen cs then some (.val (.shp (cs.map (Col.cell i.toNat)) 0)) else none
  | _, _ => none

def indexAddrP (P : Program) (t : TypeId) (x ix : D) : Option Eff :=
  match indexOf ix, P.underlying t with
  | some i, some (.array len elem) =>
    match P.info? elem with
    | none => none
    | some j => if 0 ≤ i ∧ i < len then match x with
        | .ptr id off => some (.val (.ptr id (off + i.toNat * j.size)))
        | .pel id i0 n0 j0 => some (.val (.pel id i0 n0 (j0 + i.toNat * j.size)))
        | .shp cs off => some (.val (.shp cs (off + i.toNat * j.size)))
        | _ => none
      else none
  | some i, some (.slice elem) =>
    match P.info? elem with
    | none => none
    | some j => match x with
      | .sl id off n sz => if 0 ≤ i ∧ i < n then some (.val (.ptr id (off + i.toNat * j.size))) else none
      | .sh n cs => if 0 ≤ i ∧ i < n then some (.val (.shp cs (i.toNat * j.size))) else none
      | _ => none
  | _, _ => none

def indexAddrD (P : Program) (t : TypeId) (x ix : D) : Option Eff :=
  match x with
  | .rc cs => rcAddrD P t cs ix
  | x => indexAddrP P t x ix

def fieldAddrD (P : Program) (t : TypeId) (x : D) (f : Nat) : Option Eff :=
  match P.underlying t with
  | some (.struct fields) => match fields[f]? with
    | none => none
    | some f => match P.info? f.type with
      | none => none
      | some j => if j.size = 0 then none else match x with
        | .ptr id off => some (.val (.ptr id (off + f.offset)))
        | .pel id i n j => some (.val (.pel id i n (j + f.offset)))
        | .shp cs off => some (.val (.shp cs (off + f.offset)))
        | _ => none
  | _ => none

def fieldD (P : Program) (t : TypeId) (x : D) (f : Nat) : Option Eff :=
  match P.underlying t, x with
  | some (.struct fields), .agg cs => match fields[f]? with
    | none => none
    | some f => (takeD P f.type cs f.offset).map .val
  | _, _ => none

def indexD (P : Program) (t : TypeId) (x ix : D) : Option Eff :=
  match indexOf ix, P.underlying t, x with
  | some i, some (.array len elem), .agg cs =>
    match P.info? elem with
    | none => none
    | some j => if 0 ≤ i ∧ i < len then (takeD P elem cs (i.toNat * j.size)).map .val else none
  | some i, some .string, .v (.string s) => if 0 ≤ i then match s[i.toNat]? with
      | some b => some (.val (.v (.int .u8 b.toNat)))
      | none => none
    else none
  | _, _, _ => none

def extractD (x : D) (i : Nat) : Option Eff :=
  match x with
  | .tup cs => (cs[i]?).map .val
  | _ => none

/-- A bound of a slice expression. -/
def boundD (d : Option D) (dflt most : Nat) : Option Nat :=
  match d with
  | none => some dflt
  | some (.v (.int _ i)) => if 0 ≤ i ∧ i ≤ most then some i.toNat else none
  | some _ => none

/-- A part of a row that came in. -/
def rcSliceD (P : Program) (t : TypeId) (cs : List Col) (lo hi : Option D) : Option Eff :=
  match P.underlying t with
  | some (.slice elem) => match P.info? elem, boundD hi (rowLen cs) (rowLen cs) with
    | some j, some h => match boundD lo 0 h with
      | none => none
      | some l => if j.size = cs.length then some (.val (.rc (cs.map (Col.part l (h - l))))) else none
    | _, _ => none
  | _ => none

def sliceP (P : Program) (bk : Nat → Option Blk) (t : TypeId) (x : D) (lo hi : Option D) : Option Eff :=
  match P.underlying t, x with
  | some (.array n elem), .ptr id off =>
    match P.info? elem, boundD hi n n with
    | some j, some h => match boundD lo 0 h with
      | none => none
      | some l => match bk id with
        | some b => if off + n * j.size ≤ b.cells.length then some (.val (.sl id (off + l * j.size) (h - l) ⟨j.size, 0⟩)) else none
        | none => none
    | _, _ => none
  | some (.slice elem), .sh n cs =>
    match P.info? elem, boundD hi n n with
    | some j, some h => match boundD lo 0 h with
      | none => none
      | some l => some (.val (.sh (h - l) ((cs.drop (l * j.size)).take ((h - l) * j.size))))
    | _, _ => none
  | some (.slice elem), .sl id off n sz =>
    match P.info? elem, boundD hi n (max n sz.r) with
    | some j, some h => match boundD lo 0 h with
      | none => none
      | some l => if sz.s = j.size then some (.val (.sl id (off + l * sz.s) (h - l) ⟨sz.s, max n sz.r - l⟩)) else none
    | _, _ => none
  | some (.slice elem), .v (.slice none 0 0) =>
    match P.info? elem, boundD hi 0 0 with
    | some _, some h => match boundD lo 0 h with
      | none => none
      | some _ => some (.val (.v (.slice none 0 0)))
    | _, _ => none
  | some .string, .v (.string s) =>
    match boundD hi s.size s.size with
    | some h => match boundD lo 0 h with
      | none => none
      | some l => some (.val (.v (.string (s.extract l h))))
    | none => none
  | _, _ => none

def sliceD (P : Program) (bk : Nat → Option Blk) (t : TypeId) (x : D) (lo hi : Option D) : Option Eff :=
  match x with
  | .rc cs => rcSliceD P t cs lo hi
  | x => sliceP P bk t x lo hi

def zeroInt : D → Bool
  | .v (.int _ 0) => true
  | _ => false

/-- 's[i:j:k]', of which nothing is told but that it stands. -/
def sliceChk (x : D) (lo : Option D) (h mx : D) : Option Eff :=
  match x, lo, h, mx with
  | .sl _ _ n _, some (.v (.int _ l)), .v (.int _ h), .v (.int _ m) => if 0 ≤ l ∧ l ≤ h ∧ h ≤ m ∧ m ≤ n then some (.val .undef) else none
  | _, _, _, _ => none

/-- 's[:0:0]'. -/
def slice3D (P : Program) (t : TypeId) (x : D) (lo hi : Option D) (mx : D) : Option Eff :=
  match P.underlying t, hi with
  | some (.slice elem), some h =>
    match P.info? elem with
    | none => none
    | some _ => if zeroInt mx ∧ zeroInt h ∧ lo.all zeroInt then match x with
        | .sh n _ => if n = 0 then none else some (.val .emp)
        | .sl _ _ n sz => if max n sz.r = 0 then none else some (.val .emp)
        | .emp => some (.val .emp)
        | .v (.slice none 0 0) => some (.val (.v (.slice none 0 0)))
        | _ => none
      else sliceChk x lo h mx
  | _, _ => none

def makeSliceD (P : Program) (t : TypeId) (len cap : D) : Option Eff :=
  match P.underlying t, indexOf len, indexOf cap with
  | some (.slice elem), some l, some c =>
    match P.info? elem, zeroD P elem with
    | some j, some z => if 0 ≤ l ∧ l ≤ c ∧ c * j.bytes ≤ 2 ^ 40 ∧ c ≤ 2 ^ 40 ∧ z.length = j.size then some (.row (List.replicate c.toNat z).flatten l.toNat j.size) else none
    | _, _ => none
  | _, _, _ => none

def rowOf (cs : List D) (n sz : Nat) : Eff := match n with
  | 0 => .row0
  | n + 1 => .row cs (n + 1) sz

def buildSliceD (P : Program) (t : TypeId) (len : Nat) (parts : List (Nat × D)) : Option Eff :=
  match P.underlying t with
  | some (.slice elem) =>
    match P.info? elem, zeroD P elem with
    | some j, some z => if len * j.size ≤ 2 ^ 24 ∧ z.length = j.size then (fillD (fun i => some (i * j.size, j.size)) (List.replicate len z).flatten parts).map fun cs => rowOf cs len j.size else none
    | _, _ => none
  | _ => none

def D.len : D → Option Nat
  | .emp => some 0
  | .rc cs => some (rowLen cs)
  | .sh n _ => some n
  | .sl _ _ n _ => some n
  | .v (.slice _ n _) => some n
  | .v (.string s) => some s.size
  | _ => none

def lenD (P : Program) (t : TypeId) (x : D) : Option Eff :=
  match P.underlying t with
  | some (.slice _) => match x with
    | .sh n _ => some (.val (.v (goInt n)))
    | .sl _ _ n _ => some (.val (.v (goInt n)))
    | .v (.slice _ n _) => some (.val (.v (goInt n)))
    | .emp => some (.val (.v (goInt 0)))
    | .rc cs => some (.val (.v (goInt (rowLen cs))))
    | _ => none
  | some .string => match x with
    | .v (.string s) => some (.val (.v (goInt s.size)))
    | _ => none
  | some (.array n _) => some (.val (.v (goInt n)))
  | _ => none

/-- The elements of a slice: how many, and their cells. -/
def D.elems (bk : Nat → Option Blk) (size : Nat) : D → Option (Nat × List D)
  | .sh n cs => if n * size = cs.length then some (n, cs) else none
  | .rc cs => if cs.length = size then some (rowLen cs, rowCells cs) else none
  | .sl id off n sz => match bk id with
    | some b => if sz.s = size ∧ off + n * size ≤ b.cells.length then some (n, (b.cells.drop off).take (n * size)) else none
    | none => none
  | .v (.slice none 0 0) => some (0, [])
  | .emp => some (0, [])
  | _ => none

/-- An append: of nothing, it is no append. -/
def appOf (s : D) (sz m : Nat) (ds : List D) : Eff := match m with
  | 0 => .val s
  | m + 1 => .app s sz (m + 1) ds

def appendD (P : Program) (bk : Nat → Option Blk) (ts : Array TypeId) (s x : D) : Option Eff :=
  match ts with
  | ⟨[t, t2]⟩ => match P.underlying t, P.underlying t2 with
    | some (.slice e), some (.slice _) => match P.info? e with
      | some j => match j.zero with
        | some z => if 1 ≤ j.bytes ∧ z.cells.size = j.size then match x.elems bk j.size with
            | some (m, ds) => if ds.all D.one then match s with
                | .v (.slice none 0 0) => if m * j.bytes ≤ 2 ^ 44 then some (.app s j.size m ds) else none
                | .emp => if m * j.bytes ≤ 2 ^ 44 then some (appOf s j.size m ds) else none
                | .sl _ _ n sz => if sz.s = j.size ∧ (n + m) * j.bytes ≤ 2 ^ 44 then some (appOf s j.size m ds) else none
                | _ => none
              else none
            | none => none
          else none
        | none => none
      | none => none
    | _, _ => none
  | _ => none

def copyD (P : Program) (bk : Nat → Option Blk) (ts : Array TypeId) (d x : D) : Option Eff :=
  match ts with
  | ⟨[t, _]⟩ => match P.underlying t with
    | some (.slice e) => match P.info? e with
      | some j => match d, x.elems bk j.size with
        | .sl id off n sz, some (m, ds) => if sz.s = j.size ∧ n ≠ 0 ∧ ds.all D.one then some (.cpy id off (ds.take (Nat.min m n * sz.s)) (goInt (Nat.min m n))) else none
        | _, _ => none
      | none => none
    | _ => none
  | _ => none

def clearD (P : Program) (ts : Array TypeId) (d : D) : Option Eff :=
  match ts with
  | ⟨[t]⟩ => match P.underlying t with
    | some (.slice e) => match P.info? e with
      | some j => match j.zero with
        | some z => match d with
          | .sl id off n sz => if n ≠ 0 ∧ sz.s = j.size ∧ z.cells.toList.all Value.oneCell' then some (.cpy id off ((Builtin.zeroCells z.cells n).toList.map .v) (.tuple #[])) else none
          | _ => none
        | none => none
      | none => none
    | _ => none
  | _ => none

def heldKind : D → Nat
  | .emp => 1
  | .sh n _ => if n = 0 then 0 else 1
  | .sl _ _ n _ => if n = 0 then 0 else 1
  | .ptr _ _ | .shp _ _ | .pel _ _ _ _ => 2
  | .fn _ _ => 3
  | _ => 0

def nilKind : D → Nat
  | .v (.slice none 0 0) => 1
  | .v (.pointer none) => 2
  | .v .nilFunc => 3
  | _ => 0

def descKind : TypeDesc → Nat
  | .slice _ => 1
  | .pointer _ => 2
  | .func _ _ _ => 3
  | _ => 4

/-- '== nil' and '!= nil' of what is not nil. -/
def nilCmpD (P : Program) (op : BinOp) (t : TypeId) (a b : D) : Option Eff :=
  match P.underlying t with
  | some d => if (heldKind a = descKind d ∧ nilKind b = descKind d) ∨ (nilKind a = descKind d ∧ heldKind b = descKind d) then match op with
      | .eql => some (.val (.v (.bool false)))
      | .neq => some (.val (.v (.bool true)))
      | _ => none
    else none
  | none => none

def D.plains (ds : List D) : Option (List Value) := ds.mapM D.plain

/-- Two numbers. -/
def intD (op : BinOp) (k k' : IntKind) (p q : Int) : Option D :=
  match op with
  | .shl | .shr => if 0 ≤ q then some (.v (.int k (opI op k p q))) else none
  | .quo | .rem => if k = k' then if q = 0 then none else some (.v (.int k (opI op k p q))) else none
  | .add | .sub | .mul | .and | .or | .xor | .andNot => if k = k' then some (.v (.int k (opI op k p q))) else none
  | .eql | .neq | .lss | .leq | .gtr | .geq => if k = k' then some (.v (.bool (cmpI op p q))) else none

/-- The greatest, or the least, of some. -/
def mostI (op : BinOp) (p q : Int) : Int := bif cmpI op q p then q else p
def mostGo (op : BinOp) (k : IntKind) (p : Int) : List D → Option D
  | [] => some (.v (.int k p))
  | .v (.int k' q) :: ds => if k = k' then mostGo op k (mostI op p q) ds else none
  | _ => none
def mostD (op : BinOp) : List D → Option D
  | .v (.int k p) :: ds => mostGo op k p ds
  | _ => none

/-- An operation on one number, or truth value. -/
def unD (op : UnOp) (a : D) : Option D :=
  match op, a with
  | .not, .v (.bool p) => some (.v (.bool (!p)))
  | .neg, .v (.int k p) => some (.v (.int k (opI .sub k 0 p)))
  | .xor, .v (.int k p) => some (.v (.int k (opI .xor k (if k.signed then -1 else k.max) p)))
  | _, _ => none

def convD (P : Program) (src dst : TypeId) (a : D) : Option D :=
  match a, P.underlying src, P.underlying dst with
  | .v (.int _ p), some _, some (.int k) => some (.v (.int k (k.wrap p)))
  | _, _, _ => none

def pickD (c : Bool) (a b : D) : D :=
  match a, b with
  | .v (.int k p), .v (.int k' q) => if k = k' then .v (.int k (bif c then p else q)) else bif c then a else b
  | .v (.bool p), .v (.bool q) => .v (.bool (bif c then p else q))
  | a, b => bif c then a else b

def eqFields (P : Program) (f : TypeId → D → D → Option Bool) (xs ys : List D) : List Field → Option Bool
  | [] => some true
  | fd :: l => if fd.name ≠ "_" then match takeD P fd.type xs fd.offset, takeD P fd.type ys fd.offset with
      | some x, some y => match f fd.type x y, eqFields P f xs ys l with
        | some s, some r => some (s && r)
        | _, _ => none
      | _, _ => none
    else eqFields P f xs ys l

def eqElems (P : Program) (f : D → D → Option Bool) (elem : TypeId) (size : Nat) (xs ys : List D) (i : Nat) : Nat → Option Bool
  | 0 => some true
  | n + 1 => match takeD P elem xs (i * size), takeD P elem ys (i * size) with
    | some x, some y => match f x y, eqElems P f elem size xs ys (i + 1) n with
      | some s, some r => some (s && r)
      | _, _ => none
    | _, _ => none

def eqBoolD : D → D → Option Bool
  | .v (.bool x), .v (.bool y) => some (x == y)
  | _, _ => none
def eqIntD : D → D → Option Bool
  | .v (.int k x), .v (.int k' y) => if k = k' then some (x == y) else none
  | _, _ => none

/-- Are two values the same? -/
def eqV (P : Program) : Nat → TypeId → D → D → Option Bool
  | 0, _, _, _ => none
  | d + 1, t, a, b => match P.underlying t with
    | some .bool => eqBoolD a b
    | some (.int _) => eqIntD a b
    | some (.struct fields) => match a, b with
      | .agg xs, .agg ys => if P.stoodInHeld t then none else eqFields P (eqV P d) xs ys fields.toList
      | _, _ => none
    | some (.array len elem) => match a, b, P.info? elem with
      | .agg xs, .agg ys, some j => eqElems P (eqV P d elem) elem j.size xs ys 0 len
      | _, _, _ => none
    | _ => none

/-- Values that may be compared cell by cell. -/
def eqAble : D → Bool
  | .agg _ | .v (.bool _) => true
  | _ => false

def eqD (P : Program) (op : BinOp) (t : TypeId) (a b : D) : Option D :=
  if eqAble a ∧ eqAble b then if P.eqGuardType P.depth t then none else match op with
    | .eql => (eqV P 20 t a b).map fun e => .v (.bool e)
    | .neq => (eqV P 20 t a b).map fun e => .v (.bool (!e))
    | _ => none
  else none

/-- A comparison of what else there is. -/
def binFall (P : Program) (op : BinOp) (t : TypeId) (x y : Operand) (a b : D) : Option Eff :=
  match eqD P op t a b with
  | some d => some (.val d)
  | none => match a.plain, b.plain with
    | some u, some v => pureD P (do eqGuard op t x y u v; binOp op t u v)
    | _, _ => nilCmpD P op t a b

def binD (P : Program) (op : BinOp) (t : TypeId) (x y : Operand) (a b : D) : Option Eff :=
  match a, b with
  | .v (.int k p), .v (.int k' q) => (intD op k k' p q).map .val
  | a, b => binFall P op t x y a b

def opUn (P : Program) (uop : UnOp) (a : D) : Option Eff :=
  match unD uop a with
  | some d => some (.val d)
  | none => match a.plain with
    | some u => pureD P (Op.unary uop u)
    | none => none

def opConv (P : Program) (src dst : TypeId) (a : D) : Option Eff :=
  match convD P src dst a with
  | some d => some (.val d)
  | none => match a.plain with
    | some u => pureD P (convert src dst u)
    | none => none

def opPick (c a b : D) : Option Eff :=
  match c with
  | .v (.bool c) => some (.val (pickD c a b))
  | _ => none

def opMost (op : BinOp) (s : List Value → Option Eff) (ds : List D) : Option Eff :=
  match mostD op ds with
  | some d => some (.val d)
  | none => match D.plains ds with
    | some vs => s vs
    | none => none

def opNil : D → Option Eff
  | .ptr id off => some (.val (.ptr id off))
  | .pel id i n j => some (.val (.pel id i n j))
  | .shp cs off => some (.val (.shp cs off))
  | .fn f cs => some (.val (.fn f cs))
  | _ => none

/-- The operations that call nothing. -/
def opD (P : Program) (bk : Nat → Option Blk) (ρ : Operand → D) (ty : TypeId) : Op → Option Eff
  | .move x | .assign x => some (.val (ρ x))
  | .pick c a b => opPick (ρ c) (ρ a) (ρ b)
  | .alloc t => (zeroD P t).map .box
  | .box _ x => (ρ x).cells.map .box
  | .build t parts => buildD P t (parts.toList.map fun p => (p.1, ρ p.2))
  | .buildSlice t len parts => buildSliceD P t len (parts.toList.map fun p => (p.1, ρ p.2))
  | .load t a => loadD P bk t (ρ a)
  | .store t a x => storeD P t (ρ a) (ρ x)
  | .nilCheck x => opNil (ρ x)
  | .binOp op t x y _ => binD P op t x y (ρ x) (ρ y)
  | .unOp op _ x => opUn P op (ρ x)
  | .convert src dst x => opConv P src dst (ρ x)
  | .makeFunc (.func f) first captured => if first.size = 0 then some (.val (.fn f (captured.toList.map ρ))) else none
  | .makeSlice t l c => makeSliceD P t (ρ l) (ρ c)
  | .slice t x lo hi none => sliceD P bk t (ρ x) (lo.map ρ) (hi.map ρ)
  | .slice t x lo hi (some mx) => slice3D P t (ρ x) (lo.map ρ) (hi.map ρ) (ρ mx)
  | .fieldAddr t x f => fieldAddrD P t (ρ x) f
  | .field t x f => fieldD P t (ρ x) f
  | .indexAddr t x ix => indexAddrD P t (ρ x) (ρ ix)
  | .index t x ix => indexD P t (ρ x) (ρ ix)
  | .extract x i => extractD (ρ x) i
  | .call ⟨.builtin .len, ⟨[x]⟩, ⟨[t]⟩⟩ => lenD P t (ρ x)
  | .call ⟨.builtin .append, ⟨[s, x]⟩, ts⟩ => appendD P bk ts (ρ s) (ρ x)
  | .call ⟨.builtin .copy, ⟨[d, x]⟩, ts⟩ => copyD P bk ts (ρ d) (ρ x)
  | .call ⟨.builtin .clear, ⟨[d]⟩, ts⟩ => clearD P ts (ρ d)
  | .call ⟨.builtin .max, xs, ts⟩ => opMost .gtr (fun vs => pureD P (Builtin.max_ ts ty vs.toArray)) (xs.toList.map ρ)
  | .call ⟨.builtin .min, xs, ts⟩ => opMost .lss (fun vs => pureD P (Builtin.min_ ts ty vs.toArray)) (xs.toList.map ρ)
  | _ => none

/-- The state behind an operation; 'id': the name that a new block gets. -/
def stepE (σ : St) (dst : Option Tmp) (id : Nat) : Eff → Option St
  | .val d => some (σ.put dst d)
  | .box cs => some (((σ.forget id).setB id ⟨cs.map (D.forget id), false⟩).put dst (.ptr id 0))
  | .row cs n sz => some (((σ.forget id).setB id ⟨cs.map (D.forget id), false⟩).put dst (.sl id 0 n ⟨sz, 0⟩))
  | .row0 => some (σ.put dst .emp)
  | .sto i off ds => match σ.bk i with
    | some ⟨cells, false⟩ => if off + ds.length ≤ cells.length then some ((σ.setB i ⟨splice cells off ds, false⟩).put dst (.v undef)) else none
    | _ => none
  | .cpy i off ds u => match σ.bk i with
    | some ⟨cells, false⟩ => if off + ds.length ≤ cells.length then some ((σ.setB i ⟨splice cells off ds, false⟩).put dst (D.ofV u)) else none
    | _ => none
  | .app s sz m ds => match s with
    | .emp => some (((σ.forget id).setB id ⟨ds.map (D.forget id), false⟩).put dst (.sl id 0 m ⟨sz, 0⟩))
    | .v _ => some (((σ.forget id).setB id ⟨ds.map (D.forget id), false⟩).put dst (.sl id 0 m ⟨sz, 0⟩))
    | .sl i off n _ => match σ.bk i with
      | some ⟨cells, false⟩ => if off + n * sz ≤ cells.length then some (((σ.forget i).setB i ⟨((cells.drop off).take (n * sz) ++ ds).map (D.forget i), false⟩).put dst (.sl i 0 (n + m) ⟨sz, 0⟩)) else none
      | _ => none
    | _ => none

/-- A pointer to a package-level variable. -/
def gloD : List D → D
  | [] => .undef
  | d :: ds => .shp (d :: ds) 0

def evalD (σ : St) : Operand → D
  | .tmp t => σ.fr.tm t
  | .const v => D.ofV v
  | .global g => gloD (Glo.g g)
  | .func f => .fn f []

end Go.Dam
