/- A deterministic reading of the model: what a piece of code computes over plain values. Definitions alone, no claim. No condition. -/
import GoSem.Core.Program
import GoSem.Core.Sem
import GoSem.Core.Lib
import GoSem.Core.Utf8
import GoSem.Dispatch
import GoSem.Machine.Frame
/-! The value semantics V: deterministic, over plain values and a small named heap. Program-independent. -/
namespace Go.V
open Go

/-- Plain values. `slice full es`: an immutable row, known element by element (`full`: no spare capacity). `sref`: a row of the V heap. -/
inductive PV where
  | bool (b : Bool)
  | int (k : IntKind) (n : Int)
  | str (s : List UInt8)
  | agg (cs : List PV)
  | tuple (vs : List PV)
  | slice (full : Bool) (es : List PV)
  | sref (a d ver n off len : Nat)
  | cptr (cs : List PV) (off : Nat)
  | ptr (a d ver idx off : Nat)
  | nilptr
  | func (fn : Fn) (first captured : List PV)
  | nilfunc
  | mref (a d ver : Nat)
  | nilmap
  | iface (t : TypeId) (p : PV)
  | niliface
  deriving Inhabited

abbrev PV.void : PV := .tuple []

/-- No tuple. -/
def PV.isVal : PV → Bool
  | .tuple _ => false
  | _ => true
/-- A value of one cell. -/
def PV.one : PV → Bool
  | .agg _ | .tuple _ => false
  | _ => true

def PV.cells : PV → List PV
  | .agg cs => cs
  | p => [p]

inductive Body where
  | dead
  | arr (es : List PV)
  | map (es : List (PV × PV))
  | iter (s : List UInt8) (pos : Nat)
  deriving Inhabited

structure Obj where
  ver : Nat
  fz : Nat
  body : Body
  deriving Inhabited

structure Heap where
  acts : Nat
  get : Nat → Nat → Obj

def Heap.empty : Heap := ⟨1, fun _ _ => ⟨0, 0, .dead⟩⟩
def Heap.set (H : Heap) (a d : Nat) (o : Obj) : Heap := ⟨H.acts, fun a' d' => if a' = a ∧ d' = d then o else H.get a' d'⟩

abbrev Env := Nat → PV
def Env.upd (e : Env) (d : Nat) (v : PV) : Env := fun i => if i = d then v else e i
def Env.put (e : Env) (d : Option Nat) (v : PV) : Env := match d with | some d => e.upd d v | none => e
def Env.ofList (l : List PV) : Env := fun i => l.getD i .void

/-! ### Constants -/
mutual
def ofConst : Value → Option PV
  | .bool b => some (.bool b)
  | .int k n => some (.int k n)
  | .string s => some (.str s.data.toList)
  | .pointer none => some .nilptr
  | .slice none 0 0 => some (.slice true [])
  | .map none => some .nilmap
  | .nilFunc => some .nilfunc
  | .nilIface => some .niliface
  | .agg ⟨cs⟩ => (ofConsts cs).bind fun ps => if ps.all PV.one then some (.agg ps) else none
  | .tuple ⟨[]⟩ => some .void
  | _ => none
def ofConsts : List Value → Option (List PV)
  | [] => some []
  | v :: r => (ofConst v).bind fun p => (ofConsts r).map (p :: ·)
end

/-! ### Types -/
def descAgg : TypeDesc → Bool
  | .struct _ | .array _ _ => true
  | _ => false
/-- Whether a struct or an array, and how many cells. -/
def tyInfo (P : Program) (t : TypeId) : Option (Bool × Nat) := (P.info? t).bind fun i => (P.underlying t).map fun d => (descAgg d, i.size)
def tyBytes (P : Program) (t : TypeId) : Nat := ((P.info? t).map (·.bytes)).getD (2 ^ 20)
inductive TyKind where
  | bool | int (k : IntKind) | str | slice (e : TypeId) | map (k e : TypeId) | ptr (e : TypeId) | struct | array (n : Nat) (e : TypeId) | iface | other
  deriving DecidableEq, Inhabited
def tyKind (P : Program) (t : TypeId) : TyKind :=
  match P.underlying t with
  | some .bool => .bool
  | some (.int k) => .int k
  | some .string => .str
  | some (.slice e) => .slice e
  | some (.map k e) => .map k e
  | some (.pointer e) => .ptr e
  | some (.struct _) => .struct
  | some (.array n e) => .array n e
  | some (.interface _) => .iface
  | _ => .other
/-- The field's offset, whether it is a struct or an array, and how many cells. -/
def tyField (P : Program) (t : TypeId) (f : Nat) : Option (Nat × Bool × Nat) :=
  match P.underlying t with
  | some (.struct fs) => (fs[f]?).bind fun x => (tyInfo P x.type).map fun i => (x.offset, i.1, i.2)
  | _ => none
def tyZero (P : Program) (t : TypeId) : Option PV := ((P.info? t).bind (·.zero)).bind ofConst

/-- A part of a row of cells: a struct or array of `n` cells, or one cell. -/
def cellsPart (agg : Bool) (n : Nat) (cs : List PV) (off : Nat) : Option PV :=
  if agg then (if off + n ≤ cs.length then some (.agg ((cs.drop off).take n)) else none)
  else cs[off]?
def cellsPut (n : Nat) (cs : List PV) (off : Nat) (v : PV) : Option (List PV) :=
  if v.cells.length = n ∧ v.isVal ∧ off + n ≤ cs.length then some (cs.take off ++ v.cells ++ cs.drop (off + n)) else none
/-- An element with its cells exchanged. -/
def PV.withCells (p : PV) (cs : List PV) : Option PV :=
  match p, cs with
  | .agg _, cs => some (.agg cs)
  | _, [c] => some c
  | _, _ => none

/-! ### Reading and writing the heap -/
def Heap.arr? (H : Heap) (a d ver : Nat) : Option (List PV) :=
  if (H.get a d).ver = ver then (match (H.get a d).body with | .arr es => some es | _ => none) else none
def Heap.map? (H : Heap) (a d ver : Nat) : Option (List (PV × PV)) :=
  if (H.get a d).ver = ver then (match (H.get a d).body with | .map es => some es | _ => none) else none
def Heap.rows (H : Heap) (a d ver off len : Nat) : Option (List PV) :=
  (H.arr? a d ver).bind fun es => if off + len ≤ es.length then some ((es.drop off).take len) else none
def Heap.newArr (H : Heap) (a d : Nat) (es : List PV) : Heap := H.set a d ⟨(H.get a d).ver + 1, 0, .arr es⟩
def Heap.new (H : Heap) (a d : Nat) (b : Body) : Heap := H.set a d ⟨(H.get a d).ver + 1, 0, b⟩
def Heap.kill (H : Heap) (a d : Nat) : Heap := H.set a d ⟨(H.get a d).ver + 1, 0, .dead⟩

/-- The elements of a slice value. -/
def elems (H : Heap) : PV → Option (List PV)
  | .slice _ es => some es
  | .sref a d ver _ off len => H.rows a d ver off len
  | _ => none

def loadP (P : Program) (t : TypeId) (H : Heap) : PV → Option PV
  | .cptr cs off => (tyInfo P t).bind fun i => cellsPart i.1 i.2 cs off
  | .ptr a d ver idx off => (H.arr? a d ver).bind fun es => (es[idx]?).bind fun e => (tyInfo P t).bind fun i => cellsPart i.1 i.2 e.cells off
  | _ => none

def storeP (P : Program) (t : TypeId) (H : Heap) (p v : PV) : Option Heap :=
  match p with
  | .ptr a d ver idx off =>
    (H.arr? a d ver).bind fun es => (es[idx]?).bind fun e =>
      if (H.get a d).fz ≤ idx then
        (tyInfo P t).bind fun i => (cellsPut i.2 e.cells off v).bind fun cs => (e.withCells cs).map fun e' => H.set a d ⟨ver, (H.get a d).fz, .arr (es.set idx e')⟩
      else none
  | _ => none

/-! ### Resolving: what a value is, without the heap -/
mutual
def deep (look : PV → Option PV) : PV → Option PV
  | .agg cs => (deeps look cs).map .agg
  | .tuple vs => (deeps look vs).map .tuple
  | .slice _ es => (deeps look es).map (.slice false)
  | .cptr cs off => (deeps look cs).map (.cptr · off)
  | .func fn fs cs => (deeps look fs).bind fun fs => (deeps look cs).map (.func fn fs ·)
  | .iface t p => (deep look p).map (.iface t)
  | .sref a d ver n off len => look (.sref a d ver n off len)
  | .ptr a d ver idx off => look (.ptr a d ver idx off)
  | .mref .. => none
  | .bool b => some (.bool b)
  | .int k n => some (.int k n)
  | .str s => some (.str s)
  | .nilptr => some .nilptr
  | .nilfunc => some .nilfunc
  | .nilmap => some .nilmap
  | .niliface => some .niliface
def deeps (look : PV → Option PV) : List PV → Option (List PV)
  | [] => some []
  | p :: r => (deep look p).bind fun p => (deeps look r).map (p :: ·)
end
def lookWith (H : Heap) (rec : PV → Option PV) : PV → Option PV
  | .sref a d ver _ off len => (H.rows a d ver off len).bind fun es => rec (.slice false es)
  | .ptr a d ver idx off => (H.arr? a d ver).bind fun es => (es[idx]?).bind fun e => (rec (.tuple e.cells)).bind fun | .tuple cs => some (.cptr cs off) | _ => none
  | _ => none
def resolve : Nat → Heap → PV → Option PV
  | 0, _ => deep fun _ => none
  | n + 1, H => deep (lookWith H (resolve n H))
def resolves (n : Nat) (H : Heap) (l : List PV) : Option (List PV) :=
  match resolve n H (.tuple l) with | some (.tuple l) => some l | _ => none

mutual
/-- No reference into a V heap in it, every slice plain. -/
def PV.ground : PV → Bool
  | .agg cs => grounds cs
  | .tuple vs => grounds vs
  | .slice f es => !f && grounds es
  | .cptr cs _ => grounds cs
  | .func _ fs cs => grounds fs && grounds cs
  | .iface _ p => p.ground
  | .sref .. | .ptr .. | .mref .. => false
  | _ => true
def grounds : List PV → Bool
  | [] => true
  | p :: r => p.ground && grounds r
end
mutual
/-- No slice, pointer or map in it. -/
def PV.scalar : PV → Bool
  | .agg cs => scalars cs
  | .tuple vs => scalars vs
  | .bool _ | .int _ _ | .str _ | .nilptr | .nilfunc | .nilmap | .niliface => true
  | _ => false
def scalars : List PV → Bool
  | [] => true
  | p :: r => p.scalar && scalars r
end
mutual
/-- No reference into a V heap in it (slices of whatever kind). -/
def PV.noRef : PV → Bool
  | .agg cs => noRefs cs
  | .tuple vs => noRefs vs
  | .slice _ es => noRefs es
  | .cptr cs _ => noRefs cs
  | .func _ fs cs => noRefs fs && noRefs cs
  | .iface _ p => p.noRef
  | .sref .. | .ptr .. | .mref .. => false
  | _ => true
def noRefs : List PV → Bool
  | [] => true
  | p :: r => p.noRef && noRefs r
end

/-! ### Operations without calls -/
def binInt (op : BinOp) (k : IntKind) (x y : Int) : Option PV :=
  match op with
  | .add => some (.int k (k.wrap (x + y)))
  | .sub => some (.int k (k.wrap (x - y)))
  | .mul => some (.int k (k.wrap (x * y)))
  | .quo => if y = 0 then none else some (.int k (k.wrap (x.tdiv y)))
  | .rem => if y = 0 then none else some (.int k (x.tmod y))
  | .and => some (.int k (k.wrap ((BitVec.ofInt k.bits x &&& BitVec.ofInt k.bits y).toNat)))
  | .or => some (.int k (k.wrap ((BitVec.ofInt k.bits x ||| BitVec.ofInt k.bits y).toNat)))
  | .xor => some (.int k (k.wrap ((BitVec.ofInt k.bits x ^^^ BitVec.ofInt k.bits y).toNat)))
  | .andNot => some (.int k (k.wrap ((BitVec.ofInt k.bits x &&& ~~~ BitVec.ofInt k.bits y).toNat)))
  | .eql => some (.bool (decide (x = y)))
  | .neq => some (.bool (!decide (x = y)))
  | .lss => some (.bool (decide (x < y)))
  | .leq => some (.bool (decide (x ≤ y)))
  | .gtr => some (.bool (decide (x > y)))
  | .geq => some (.bool (decide (x ≥ y)))
  | _ => none
def shiftInt (op : BinOp) (k : IntKind) (x : Int) (y : Int) : Option PV :=
  if y < 0 then none else
  match op with
  | .shl => some (.int k (k.wrap (x * 2 ^ (min y.toNat k.bits))))
  | .shr => some (.int k (x.fdiv (2 ^ (min y.toNat k.bits))))
  | _ => none
def binStr (op : BinOp) (x y : List UInt8) : Option PV :=
  match op with
  | .add => if ((x.length + y.length : Nat) : Int) > IntKind.i64.max then none else some (.str (x ++ y))
  | .eql => some (.bool (decide (x = y)))
  | .neq => some (.bool (!decide (x = y)))
  | .lss => some (.bool (Op.bytesLess x y))
  | .leq => some (.bool (Op.bytesLess x y || decide (x = y)))
  | .gtr => some (.bool (!(Op.bytesLess x y || decide (x = y))))
  | .geq => some (.bool (!(Op.bytesLess x y)))
  | _ => none
/-- '==' of two plain cells of a kind. -/
def eqK : TyKind → PV → PV → Option Bool
  | .int _, .int k a, .int k' b => if k = k' then some (decide (a = b)) else none
  | .str, .str a, .str b => some (decide (a = b))
  | .bool, .bool a, .bool b => some (a == b)
  | _, _, _ => none
/-- '==' of two rows of plain cells. -/
def eqKs : List TyKind → List PV → List PV → Option Bool
  | [], [], [] => some true
  | k :: ks, a :: as, b :: bs => (eqK k a b).bind fun r => (eqKs ks as bs).map (r && ·)
  | _, _, _ => none
def eqP : TyKind → PV → PV → Option Bool
  | .bool, .bool a, .bool b => some (a == b)
  | .ptr _, .nilptr, .nilptr => some true
  | .ptr _, .nilptr, .ptr .. | .ptr _, .nilptr, .cptr .. | .ptr _, .ptr .., .nilptr | .ptr _, .cptr .., .nilptr => some false
  | .iface, .niliface, .iface .. | .iface, .iface .., .niliface => some false
  | _, _, _ => none
def plainKind : TyKind → Bool
  | .int _ | .str | .bool => true
  | _ => false
def flatFields (P : Program) : Nat → List Field → Bool
  | _, [] => true
  | i, f :: fs => f.name != "_" && f.offset == i && plainKind (tyKind P f.type) && flatFields P (i + 1) fs
/-- A struct of plain one-cell fields, one behind the other, none blank: their kinds. -/
def tyEq (P : Program) (t : TypeId) : Option (List TyKind) :=
  match P.underlying t with
  | some (.struct fs) => if !P.stoodInHeld t && !P.eqGuardType P.depth t && flatFields P 0 fs.toList then some (fs.toList.map fun f => tyKind P f.type) else none
  | _ => none
def binP (P : Program) (op : BinOp) (t : TypeId) (x y : PV) : Option PV :=
  match x, y with
  | .int k a, .int k' b =>
    match op with
    | .shl | .shr => shiftInt op k a b
    | _ => if k = k' then binInt op k a b else none
  | .str a, .str b => binStr op a b
  | .agg a, .agg b => match op with
    | .eql => (tyEq P t).bind fun ks => (eqKs ks a b).map .bool
    | .neq => (tyEq P t).bind fun ks => (eqKs ks a b).map fun r => .bool (!r)
    | _ => none
  | x, y => match op with
    | .eql => (eqP (tyKind P t) x y).map .bool
    | .neq => (eqP (tyKind P t) x y).map fun b => .bool (!b)
    | _ => none
def unP (op : UnOp) (x : PV) : Option PV :=
  match op, x with
  | .neg, .int k n => binInt .sub k 0 n
  | .xor, .int k n => binInt .xor k (if k.signed then -1 else k.max) n
  | .not, .bool b => some (.bool !b)
  | _, _ => none

def asNat? : PV → Option Nat
  | .int _ n => if 0 ≤ n then some n.toNat else none
  | _ => none

/-- `x[i]`'s address. -/
def indexAddrP (P : Program) (t : TypeId) (x i : PV) : Option PV :=
  (asNat? i).bind fun i =>
  match tyKind P t, x with
  | .slice e, .slice _ es => (es[i]?).bind fun x => (tyInfo P e).bind fun s => if x.cells.length = s.2 then some (.cptr x.cells 0) else none
  | .slice e, .sref a d ver n off len => if i < len then (tyInfo P e).bind fun s => if n = s.2 then some (.ptr a d ver (off + i) 0) else none else none
  | .array n e, .ptr a d ver idx off => if i < n then (tyInfo P e).map fun s => .ptr a d ver idx (off + i * s.2) else none
  | .array n e, .cptr cs off => if i < n then (tyInfo P e).map fun s => .cptr cs (off + i * s.2) else none
  | _, _ => none
def fieldAddrP (P : Program) (t : TypeId) (x : PV) (f : Nat) : Option PV :=
  (tyField P t f).bind fun i => if i.2.2 = 0 then none else
  match x with
  | .ptr a d ver idx off => some (.ptr a d ver idx (off + i.1))
  | .cptr cs off => some (.cptr cs (off + i.1))
  | _ => none
def fieldP (P : Program) (t : TypeId) (x : PV) (f : Nat) : Option PV :=
  (tyField P t f).bind fun i => match x with | .agg cs => cellsPart i.2.1 i.2.2 cs i.1 | _ => none
def indexP (P : Program) (t : TypeId) (x i : PV) : Option PV :=
  (asNat? i).bind fun i =>
  match tyKind P t, x with
  | .str, .str s => (s[i]?).map fun b => .int .u8 b.toNat
  | .array n e, .agg cs => if i < n then (tyInfo P e).bind fun s => cellsPart s.1 s.2 cs (i * s.2) else none
  | _, _ => none
def bound? (x : Option PV) (d : Nat) : Option Nat := match x with | none => some d | some v => asNat? v
def allCells (n : Nat) (es : List PV) : Bool := es.all fun e => e.cells.length == n
def sliceP (P : Program) (t : TypeId) (x : PV) (lo hi mx : Option PV) : Option PV :=
  match tyKind P t, x, mx with
  | .str, .str s, none =>
    (bound? hi s.length).bind fun h => (bound? lo 0).bind fun l => if l ≤ h ∧ h ≤ s.length then some (.str ((s.drop l).take (h - l))) else none
  | .slice e, .slice f es, none =>
    (bound? hi es.length).bind fun h => (bound? lo 0).bind fun l => (tyInfo P e).bind fun s =>
      if l ≤ h ∧ h ≤ es.length ∧ allCells s.2 es = true then some (.slice (f && decide (h = es.length)) ((es.drop l).take (h - l))) else none
  | .slice e, .slice _ es, some m =>
    (asNat? m).bind fun m => (bound? hi es.length).bind fun h => (bound? lo 0).bind fun l => (tyInfo P e).bind fun s =>
      if l ≤ h ∧ h = m ∧ m ≤ es.length ∧ allCells s.2 es = true ∧ hi.isSome then some (.slice true ((es.drop l).take (h - l))) else none
  | .slice e, .sref a d ver n off len, none =>
    (bound? hi len).bind fun h => (bound? lo 0).bind fun l => (tyInfo P e).bind fun s => if l ≤ h ∧ h ≤ len ∧ n = s.2 then some (.sref a d ver n (off + l) (h - l)) else none
  | _, _, _ => none
/-- The zero value's cells and the fields' places. -/
def tyBuild (P : Program) (t : TypeId) : Option (List PV × List (Nat × Nat)) :=
  match P.underlying t with
  | some (.struct fs) => (tyZero P t).bind fun z => if z.isVal then (fs.toList.mapM fun f => (P.info? f.type).map fun i => (f.offset, i.size)).map fun l => (z.cells, l) else none
  | _ => none
def fillP (places : List (Nat × Nat)) (cs : List PV) : List (Nat × PV) → Option (List PV)
  | [] => some cs
  | (f, v) :: r => (places[f]?).bind fun i => (cellsPut i.2 cs i.1 v).bind fun cs => fillP places cs r
def buildP (P : Program) (t : TypeId) (parts : List (Nat × PV)) : Option PV := (tyBuild P t).bind fun z => (fillP z.2 z.1 parts).map .agg
def setAll (s : Nat) (es : List PV) : List (Nat × PV) → Option (List PV)
  | [] => some es
  | (i, v) :: r => if i < es.length ∧ v.cells.length = s ∧ v.isVal then setAll s (es.set i v) r else none
def buildSliceP (P : Program) (t : TypeId) (len : Nat) (parts : List (Nat × PV)) : Option PV :=
  match tyKind P t with
  | .slice e =>
    (tyInfo P e).bind fun s => if len = 0 then (if parts.isEmpty then some (.slice true []) else none) else
    if 0 < s.2 ∧ len * s.2 ≤ 16777216 then
      (tyZero P e).bind fun z => if z.cells.length = s.2 ∧ z.isVal then (setAll s.2 (List.replicate len z) parts).map (.slice true) else none
    else none
  | _ => none

/-- How many elements a row may come to have by an append or a make. -/
def maxRow : Nat := 68719476736

def lenP : TyKind → PV → Option PV
  | .str, .str s => some (.int .i64 s.length)
  | .slice _, .slice _ es => some (.int .i64 es.length)
  | .slice _, .sref _ _ _ _ _ len => some (.int .i64 len)
  | .map _ _, .nilmap => some (.int .i64 0)
  | _, _ => none

def bytesPV (s : List UInt8) : List PV := s.map fun b => .int .u8 b.toNat

/-- What is appended to a row of elements of `n` cells. -/
def appended (H : Heap) (n : Nat) : PV → Option (List PV)
  | .str s => if n = 1 then some (bytesPV s) else none
  | x => elems H x
def kindSrc : TyKind → Bool
  | .slice _ | .str => true
  | _ => false

/-- `append(base, ys...)`, elements of `n` cells, the new row under the name `(a, d)`. -/
def appendTo (a d n : Nat) (H : Heap) (base : PV) (ys : List PV) : Option (PV × Heap) :=
  match base with
  | .slice true es =>
    if ys.isEmpty then some (.slice true es, H)
    else if es.length + ys.length ≤ maxRow ∧ allCells n ys = true ∧ allCells n es = true
    then some (.sref a d ((H.get a d).ver + 1) n 0 (es.length + ys.length), H.newArr a d (es ++ ys)) else none
  | .sref a' d' ver m off len =>
    (H.rows a' d' ver off len).bind fun es =>
    if m = n ∧ len + ys.length ≤ maxRow ∧ (H.get a' d').fz ≤ off + len ∧ allCells n ys = true then
      some (.sref a d (((H.kill a' d').get a d).ver + 1) n 0 (len + ys.length), (H.kill a' d').set a d ⟨((H.kill a' d').get a d).ver + 1, (H.get a' d').fz - off, .arr (es ++ ys)⟩)
    else none
  | _ => none
/-- The zero element has the element's cells. -/
def zeroOk (P : Program) (e : TypeId) (n : Nat) : Bool := match tyZero P e with | some z => z.isVal && z.cells.length == n | none => false
def appendP (P : Program) (t tx : TypeId) (a d : Nat) (H : Heap) (base x : PV) : Option (PV × Heap) :=
  match tyKind P t with
  | .slice e =>
    if kindSrc (tyKind P tx) then
    (tyInfo P e).bind fun s => if s.2 = 0 ∨ 1024 < tyBytes P e ∨ zeroOk P e s.2 = false then none else
    (appended H s.2 x).bind fun ys => appendTo a d s.2 H base ys
    else none
  | _ => none

def copyTo (n : Nat) (H : Heap) (dst : PV) (ys : List PV) : Option (PV × Heap) :=
  match dst with
  | .sref a d ver m off len =>
    (H.arr? a d ver).bind fun es =>
    if m = n ∧ off + len ≤ es.length ∧ (H.get a d).fz ≤ off ∧ allCells n ys = true then
      some (.int .i64 (min ys.length len : Nat), H.set a d ⟨ver, (H.get a d).fz, .arr (es.take off ++ ys.take len ++ es.drop (off + min ys.length len))⟩)
    else none
  | .slice _ [] => some (.int .i64 0, H)
  | _ => none
def copyP (P : Program) (t : TypeId) (H : Heap) (dst x : PV) : Option (PV × Heap) :=
  match tyKind P t with
  | .slice e => (tyInfo P e).bind fun s => (appended H s.2 x).bind fun ys => copyTo s.2 H dst ys
  | _ => none

/-! ### Maps -/
def keyEq : PV → PV → Option Bool
  | .int k a, .int k' b => if k = k' then some (decide (a = b)) else none
  | .str a, .str b => some (decide (a = b))
  | .bool a, .bool b => some (a == b)
  | _, _ => none
def findKeyP (k : PV) : List (PV × PV) → Option (Option (Nat × PV))
  | [] => some none
  | (k', v) :: r => (keyEq k k').bind fun b => if b then some (some (0, v)) else (findKeyP k r).map fun o => o.map fun (i, v) => (i + 1, v)
def mapPut (es : List (PV × PV)) (k v : PV) : Option (List (PV × PV)) :=
  (findKeyP k es).map fun | some (i, _) => es.set i (k, v) | none => es ++ [(k, v)]

structure Cfg where
  P : Program
  live : FuncId → Bool
  bad : FuncId → Bool
  ext : FuncId → Option (List PV → Option PV)
  glob : Nat → Option PV

def evalO (C : Cfg) (env : Env) : Operand → Option PV
  | .tmp t => some (env t)
  | .const v => ofConst v
  | .global g => C.glob g
  | .func f => some (.func (.func f) [] [])
def evalOs (C : Cfg) (env : Env) : List Operand → Option (List PV)
  | [] => some []
  | x :: r => (evalO C env x).bind fun p => (evalOs C env r).map (p :: ·)
def evalParts (C : Cfg) (env : Env) : List (Nat × Operand) → Option (List (Nat × PV))
  | [] => some []
  | (i, x) :: r => (evalO C env x).bind fun p => (evalParts C env r).map ((i, p) :: ·)
def evalOpt (C : Cfg) (env : Env) : Option Operand → Option (Option PV)
  | none => some none
  | some x => (evalO C env x).map some

def bytesOf : List PV → Option (List UInt8)
  | [] => some []
  | .int .u8 n :: r => (bytesOf r).map (UInt8.ofNat n.toNat :: ·)
  | _ => none
def convertP (P : Program) (src dst : TypeId) (H : Heap) (x : PV) : Option PV :=
  match tyKind P src, tyKind P dst, x with
  | .int _, .int k, .int _ n => some (.int k (k.wrap n))
  | .str, .str, .str s => some (.str s)
  | .slice e, .str, x => if tyKind P e = .int .u8 then (elems H x).bind fun es => (bytesOf es).map .str else none
  | _, _, _ => none

/-- A builtin. -/
def builtinP (C : Cfg) (b : Builtin) (ts : List TypeId) (a : Nat) (d : Option Nat) (H : Heap) (args : List PV) : Option (PV × Heap) :=
  match b, ts, args with
  | .len, [t], [x] => (lenP (tyKind C.P t) x).map (·, H)
  | .append, [t, u], [s, x] => d.bind fun d => appendP C.P t u a d H s x
  | .min, _, [.int k x, .int k' y] => if k = k' then some (.int k (if y < x then y else x), H) else none
  | .max, _, [.int k x, .int k' y] => if k = k' then some (.int k (if y > x then y else x), H) else none
  | _, _, _ => none

def nilCheckP (H : Heap) : PV → Option (PV × Heap)
  | .ptr a d ver idx off => some (.ptr a d ver idx off, H)
  | .cptr cs off => some (.cptr cs off, H)
  | .func (.func f) fs cs => some (.func (.func f) fs cs, H)
  | _ => none

/-- An iterator over a string. -/
def rangeP (P : Program) (t : TypeId) (a d : Nat) (H : Heap) (x : PV) : Option (PV × Heap) :=
  match tyKind P t, x with
  | .str, .str s => some (.mref a d ((H.get a d).ver + 1), H.new a d (.iter s 0))
  | _, _ => none
def iterNext (a d : Nat) (H : Heap) (s : List UInt8) (pos : Nat) : PV × Heap :=
  if pos < s.length then
    (.tuple [.bool true, .int .i64 pos, .int .i32 ((Utf8.decode ⟨⟨s⟩⟩ pos).1 : Nat)], H.set a d ⟨(H.get a d).ver, (H.get a d).fz, .iter s (pos + (Utf8.decode ⟨⟨s⟩⟩ pos).2)⟩)
  else (.tuple [.bool false], H)
def nextP (H : Heap) (str : Bool) (x : PV) : Option (PV × Heap) :=
  match str, x with
  | true, .mref a d ver => if (H.get a d).ver = ver then (match (H.get a d).body with | .iter s pos => some (iterNext a d H s pos) | _ => none) else none
  | _, _ => none

/-- An operation that calls nothing. -/
def opP (C : Cfg) (a : Nat) (env : Env) (H : Heap) (o : Oper) : Option (PV × Heap) :=
  match o.op with
  | .move x | .assign x => (evalO C env x).map (·, H)
  | .pick c x y => (evalO C env c).bind fun | .bool b => (evalO C env (if b then x else y)).map (·, H) | _ => none
  | .alloc t => o.dst.bind fun d => (tyZero C.P t).bind fun z => if z.isVal then some (.ptr a d ((H.get a d).ver + 1) 0 0, H.newArr a d [z]) else none
  | .box _ x => o.dst.bind fun d => (evalO C env x).bind fun v => if v.isVal then some (.ptr a d ((H.get a d).ver + 1) 0 0, H.newArr a d [v]) else none
  | .build t parts => (evalParts C env parts.toList).bind fun ps => (buildP C.P t ps).map (·, H)
  | .buildSlice t len parts => (evalParts C env parts.toList).bind fun ps => (buildSliceP C.P t len ps).map (·, H)
  | .load t x => (evalO C env x).bind fun p => (loadP C.P t H p).map (·, H)
  | .store t x v => (evalO C env x).bind fun p => (evalO C env v).bind fun v => (storeP C.P t H p v).map (.void, ·)
  | .nilCheck x => (evalO C env x).bind (nilCheckP H)
  | .binOp op t x y _ => (evalO C env x).bind fun p => (evalO C env y).bind fun q => (binP C.P op t p q).map (·, H)
  | .unOp op _ x => (evalO C env x).bind fun p => (unP op p).map (·, H)
  | .convert s t x => (evalO C env x).bind fun p => (convertP C.P s t H p).map (·, H)
  | .makeFunc fn first captured => (evalOs C env first.toList).bind fun fs => (evalOs C env captured.toList).map fun cs => (.func fn fs cs, H)
  | .makeSlice t l c => (evalO C env l).bind fun l => (evalO C env c).bind fun c => (asNat? l).bind fun l => (asNat? c).bind fun c => o.dst.bind fun d =>
      (match tyKind C.P t with
       | .slice e => (tyInfo C.P e).bind fun s => (tyZero C.P e).bind fun z =>
         if l ≤ c ∧ c ≤ maxRow ∧ z.isVal ∧ z.cells.length = s.2 ∧ 0 < s.2 ∧ tyBytes C.P e ≤ 1024 then some (.sref a d ((H.get a d).ver + 1) s.2 0 l, H.newArr a d (List.replicate l z)) else none
       | _ => none)
  | .slice t x lo hi mx => (evalO C env x).bind fun p => (evalOpt C env lo).bind fun lo => (evalOpt C env hi).bind fun hi => (evalOpt C env mx).bind fun mx => (sliceP C.P t p lo hi mx).map (·, H)
  | .fieldAddr t x f => (evalO C env x).bind fun p => (fieldAddrP C.P t p f).map (·, H)
  | .field t x f => (evalO C env x).bind fun p => (fieldP C.P t p f).map (·, H)
  | .indexAddr t x i => (evalO C env x).bind fun p => (evalO C env i).bind fun i => (indexAddrP C.P t p i).map (·, H)
  | .index t x i => (evalO C env x).bind fun p => (evalO C env i).bind fun i => (indexP C.P t p i).map (·, H)
  | .extract x i => (evalO C env x).bind fun | .tuple vs => (vs[i]?).map (·, H) | _ => none
  | .range t x => o.dst.bind fun d => (evalO C env x).bind (rangeP C.P t a d H)
  | .next x b => (evalO C env x).bind (nextP H b)
  | .call { callee := .builtin b, args, argTypes } => (evalOs C env args.toList).bind fun ps => builtinP C b argTypes.toList a o.dst H ps
  | _ => none

/-- Whether the guard lets an operation run. -/
def wantedP (ops : List Oper) (env : Env) (o : Oper) : Option Bool :=
  match o.guard with
  | none => some true
  | some (j, want) => match ((ops[j]?).bind (·.dst)).map env with
    | some (.bool b) => some (b == want)
    | some (.tuple []) => some false
    | _ => none

inductive Out where
  | norm | exit (id : Nat) | ret
  deriving DecidableEq, Inhabited

/-- The results of a function. -/
def resultP (C : Cfg) (H : Heap) (env : Env) : List ResultVar → Option (List PV)
  | [] => some []
  | .tmp t :: r => (resultP C H env r).map (env t :: ·)
  | .cell x t :: r => (loadP C.P t H (env x)).bind fun p => (resultP C H env r).map (p :: ·)
def packP : List PV → PV
  | [p] => p
  | l => .tuple l


/-- The temporary that an operation's new object is named by. -/
def nDst (o : Oper) : Option Nat :=
  match o.op with
  | .alloc _ | .box .. | .makeSlice .. => o.dst
  | _ => none
def nDsts (l : List Oper) : List Nat := l.filterMap nDst
def killAll (a : Nat) : List Nat → Heap → Heap
  | [], H => H
  | d :: r, H => killAll a r (H.kill a d)

mutual
def evCode (C : Cfg) : Nat → Nat → Code → Env → Heap → Option (Out × Env × Heap)
  | 0, _, _, _, _ => none
  | n + 1, a, c, env, H =>
    match c with
    | .skip => some (.norm, env, H)
    | .region _ ops b => (evOps C n a ops.toList ops.toList env (if b then killAll a (nDsts ops.toList) H else H)).map fun (env, H) => (.norm, env, H)
    | .seq x y => (evCode C n a x env H).bind fun (o, env, H) => match o with | .norm => evCode C n a y env H | o => some (o, env, H)
    | .cond c x y => (evalO C env c).bind fun | .bool b => evCode C n a (if b then x else y) env H | _ => none
    | .block id x => (evCode C n a x env H).map fun (o, env, H) => ((if o = .exit id then .norm else o), env, H)
    | .loop x => (evCode C n a x env H).bind fun (o, env, H) => match o with | .norm => evCode C n a (.loop x) env H | o => some (o, env, H)
    | .exit id => some (.exit id, env, H)
    | .ret => some (.ret, env, H)
    | .label _ => some (.norm, env, H)
    | .scope x => evCode C n a x env H
    | _ => none
def evOps (C : Cfg) : Nat → Nat → List Oper → List Oper → Env → Heap → Option (Env × Heap)
  | 0, _, _, _, _, _ => none
  | _ + 1, _, _, [], env, H => some (env, H)
  | n + 1, a, ops, o :: r, env, H =>
    (wantedP ops env o).bind fun
      | true => (evOp C n a env H o).bind fun (v, H) => evOps C n a ops r (env.put o.dst v) H
      | false => evOps C n a ops r (env.put o.dst .void) H
def evOp (C : Cfg) : Nat → Nat → Env → Heap → Oper → Option (PV × Heap)
  | 0, _, _, _, _ => none
  | n + 1, a, env, H, o =>
    match o.op with
    | .call { callee := .value f, args, .. } =>
      (evalO C env f).bind fun
        | .func (.func f) fs cs => (evalOs C env args.toList).bind fun ps => evCall C n f (fs ++ ps ++ cs) H
        | _ => none
    | _ => opP C a env H o
def evCall (C : Cfg) : Nat → FuncId → List PV → Heap → Option (PV × Heap)
  | 0, _, _, _ => none
  | n + 1, f, args, H =>
    if C.live f then evBody C n H.acts f args ⟨H.acts + 1, H.get⟩
    else (resolves n H args).bind fun args' => (evPure C n f args').bind fun r => if noRefs args || r.scalar then some (r, H) else none
/-- A call that only reads: from plain values to a plain value. -/
def evPure (C : Cfg) : Nat → FuncId → List PV → Option PV
  | 0, _, _ => none
  | n + 1, f, args =>
    match C.ext f with
    | some g => g args
    | none => (evBody C n 0 f args Heap.empty).bind fun (r, H) => resolve n H r
def evBody (C : Cfg) : Nat → Nat → FuncId → List PV → Heap → Option (PV × Heap)
  | 0, _, _, _, _ => none
  | n + 1, a, f, args, H => if C.bad f then none else
    match C.P.funcs[f]? with
    | some fn => match fn.body with
      | some c => (evCode C n a c (Env.ofList args) H).bind fun (o, env, H) => match o with
        | .norm | .ret => (resultP C H env fn.results.toList).map fun rs => (packP rs, H)
        | _ => none
      | none => none
    | none => none
end
end Go.V
