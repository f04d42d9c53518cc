/-
  The data machine, part D: what an operation makes of data.
-/
import Derived.Test.YthadbladkbfcmaaDmC
namespace Go.Dm
open Go.RowKit

/-- An argument: a cell, a struct's (an array's) cells, a pointer to the k-th variable that is lent. -/
inductive A where
  | c (x : C)
  | agg (xs : List C)
  | imp (k : Nat)
  | nil
  deriving Inhabited

/-- A result. 'top': a slice that whoever gets it may append to. -/
inductive Res where
  | c (x : C)
  | agg (xs : List C)
  | top (sz : Nat) (es : List (List C))
  deriving Inhabited

/-- What a function makes of its arguments and of what it is lent. -/
abbrev Oracle := FuncId → List A → List (List C) → Option (List Res × List (List C))

structure Env where
  P : Program
  F : Oracle
  gl : Nat → Option (List C)

structure Eff where
  dst : T
  nv : Option (List V) := none
  uv : List (Nat × List V) := []
  ut : List (Nat × Nat) := []
  rv : List Nat := []
  rt : List Nat := []
  deriving Inhabited

def isInt : Value → Bool | .int _ _ => true | _ => false

/-- A value that names no memory, of one cell. -/
def plainV : Value → Bool
  | .bool _ | .int _ _ | .string _ | .pointer none | .nilFunc | .nilIface | .map none => true
  | _ => false

def ofValue : Value → Option V
  | .slice none 0 0 => some (.own 0 [] .exact)
  | v => if plainV v then some (.c (.raw v)) else none

def ofValueK : Value → Option K
  | .agg cs => (cs.toList.mapM ofValue).map .agg
  | v => (ofValue v).map .v

def K.cells : K → List V
  | .v x => [x]
  | .agg xs => xs

def V.toC : V → Option C
  | .c x => some x
  | .own sz es _ => some (.slice sz es)
  | _ => none

def T.cell? : T → Option V
  | .k (.v x) => some x
  | _ => none

def T.k? (t : T) : Option K :=
  match t with
  | .k x => some x
  | _ => none

def T.raw? : T → Option Value
  | .k (.v (.c (.raw x))) => some x
  | _ => none

def T.int? (t : T) : Option (IntKind × Int) :=
  match t.raw? with
  | some (.int q n) => some (q, n)
  | _ => none

def T.bool? (t : T) : Option Bool :=
  match t.raw? with
  | some (.bool b) => some b
  | _ => none

def T.pure (v : Value) : T := .k (.v (.c (.raw v)))

def aggOf (P : Program) (t : TypeId) : Option Bool := (P.underlying t).map (·.isRow)

/-- What is read of type t at the head of these cells. -/
def readAt (P : Program) (t : TypeId) (xs : List V) : Option K :=
  match aggOf P t with
  | some true => if P.cellsOf t ≤ xs.length then some (.agg (xs.take (P.cellsOf t))) else none
  | some false => xs.head?.map .v
  | none => none

def Env.ev (E : Env) (m : Mem) : Operand → T
  | .tmp t => m.tmp t
  | .const v => match ofValueK v with | some k => .k k | none => .hole
  | .global g => match E.gl g with | some cs => .k (.v (.c (.rptr cs))) | none => .hole
  | .func f => .k (.v (.clo f []))

def bitsOp (k : IntKind) (x y : Int) (f : BitVec k.bits → BitVec k.bits → BitVec k.bits) : Value :=
  .int k (k.wrap (f (BitVec.ofInt k.bits x) (BitVec.ofInt k.bits y)).toNat)

/-- Two numbers of one kind. -/
def intBin (op : BinOp) (k : IntKind) (a b : Int) : Option Value :=
  match op with
  | .add => some (.int k (k.wrap (a + b)))
  | .sub => some (.int k (k.wrap (a - b)))
  | .mul => some (.int k (k.wrap (a * b)))
  | .quo => if b = 0 then none else some (.int k (k.wrap (a.tdiv b)))
  | .rem => if b = 0 then none else some (.int k (a.tmod b))
  | .and => some (bitsOp k a b (· &&& ·))
  | .or => some (bitsOp k a b (· ||| ·))
  | .xor => some (bitsOp k a b (· ^^^ ·))
  | .andNot => some (bitsOp k a b (fun x y => x &&& ~~~y))
  | .eql => some (.bool (a == b))
  | .neq => some (.bool (a != b))
  | .lss => some (.bool (decide (a < b)))
  | .leq => some (.bool (decide (a ≤ b)))
  | .gtr => some (.bool (decide (a > b)))
  | .geq => some (.bool (decide (a ≥ b)))
  | _ => none

def shiftBin (op : BinOp) (k : IntKind) (a b : Int) : Option Value :=
  if b < 0 then none else
  match op with
  | .shl => some (.int k (k.wrap (a * 2 ^ (min b.toNat k.bits))))
  | .shr => some (.int k (a.fdiv (2 ^ (min b.toNat k.bits))))
  | _ => none

def strBin (op : BinOp) (a b : ByteArray) : Option Value :=
  match op with
  | .add => if a.size + b.size ≤ 9223372036854775807 then some (.string (a ++ b)) else none
  | .eql => some (.bool (a == b))
  | .neq => some (.bool (!(a == b)))
  | _ => none

def rawBin (op : BinOp) (x y : Value) : Option Value :=
  match x, y with
  | .int k a, .int k' b =>
    match op with
    | .shl | .shr => shiftBin op k a b
    | _ => if k = k' then intBin op k a b else none
  | .string a, .string b => strBin op a b
  | _, _ => none

/-- '==' of type t over cells. -/
def eqWalk (P : Program) : Nat → TypeId → List Value → List Value → Option Bool
  | 0, _, _, _ => none
  | f + 1, t, xs, ys =>
    match P.underlying t with
    | some .bool => match xs, ys with | [.bool a], [.bool b] => some (a == b) | _, _ => none
    | some (.int _) => match xs, ys with | [.int k a], [.int k' b] => if k = k' then some (a == b) else none | _, _ => none
    | some .string => match xs, ys with | [.string a], [.string b] => some (a == b) | _, _ => none
    | some (.struct fs) =>
      if P.stoodInHeld t then none else
      fs.toList.foldr (fun g acc =>
        if g.name = "_" then none else
        match eqWalk P f g.type ((xs.drop g.offset).take (P.cellsOf g.type)) ((ys.drop g.offset).take (P.cellsOf g.type)), acc with
        | some a, some b => some (a && b)
        | _, _ => none) (some true)
    | some (.array n e) =>
      if (P.info? e).isNone then none else
      (List.range n).foldr (fun i acc =>
        match eqWalk P f e ((xs.drop (i * P.cellsOf e)).take (P.cellsOf e)) ((ys.drop (i * P.cellsOf e)).take (P.cellsOf e)), acc with
        | some a, some b => some (a && b)
        | _, _ => none) (some true)
    | _ => none

def V.raw? : V → Option Value
  | .c (.raw v) => some v
  | _ => none

def binT (P : Program) (op : BinOp) (t : TypeId) (x y : T) : Option T :=
  match x, y with
  | .k (.v (.c (.raw a))), .k (.v (.c (.raw b))) =>
    match a, b with
    | .bool p, .bool q =>
      match op, P.underlying t with
      | .eql, some .bool => some (.pure (.bool (p == q)))
      | .neq, some .bool => some (.pure (.bool (!(p == q))))
      | _, _ => none
    | a, b => (rawBin op a b).map .pure
  | .k (.agg xs), .k (.agg ys) =>
    match xs.mapM V.raw?, ys.mapM V.raw? with
    | some as, some bs =>
      if P.eqGuardType P.depth t = true ∨ aggOf P t ≠ some true then none else
      match eqWalk P 100 t as bs with
      | some r =>
        match op with
        | .eql => some (.pure (.bool r))
        | .neq => some (.pure (.bool (!r)))
        | _ => none
      | none => none
    | _, _ => none
  | _, _ => none

def unT (op : UnOp) (x : T) : Option T :=
  match op, x.raw? with
  | .not, some (.bool b) => some (.pure (.bool (!b)))
  | .neg, some (.int k n) => some (.pure (.int k (k.wrap (0 - n))))
  | _, _ => none

/-- Bytes as a string. -/
def bstr (ns : List Int) : ByteArray := ns.foldl (fun r n => r.push (UInt8.ofNat n.toNat)) ByteArray.empty

/-- The bytes in cells. -/
def bytesIn : List (List C) → Option (List Int)
  | [] => some []
  | [.raw (.int .u8 n)] :: r => (bytesIn r).map (n :: ·)
  | _ :: _ => none

/-- What is converted from bytes to a string. -/
def convB (P : Program) (src dst : TypeId) (x : T) : Option (List (List C)) :=
  match P.underlying src, P.underlying dst, x with
  | some (.slice e), some .string, .k (.v (.c (.slice sz es))) => match P.underlying e with | some (.int .u8) => if sz = 1 ∨ es = [] then some es else none | _ => none
  | some (.slice e), some .string, .k (.v (.own sz es _)) => match P.underlying e with | some (.int .u8) => if sz = 1 ∨ es = [] then some es else none | _ => none
  | _, _, _ => none

def convT (P : Program) (src dst : TypeId) (x : T) : Option T :=
  match convB P src dst x with
  | some es => (bytesIn es).map fun ns => .pure (.string (bstr ns))
  | none =>
  match P.underlying src, P.underlying dst, x.raw? with
  | some _, some (.int k), some (.int _ n) => some (.pure (.int k (k.wrap n)))
  | some _, some .string, some (.string s) => some (.pure (.string s))
  | _, _, _ => none

/-- Parts laid over cells. -/
def fillV (place : Nat → Option (Nat × Nat)) : List V → List (Nat × T) → Option (List V)
  | cells, [] => some cells
  | cells, (i, x) :: rest =>
    match place i, x.k? with
    | some (off, size), some k =>
      if k.cells.length = size ∧ off + size ≤ cells.length then fillV place (cells.take off ++ k.cells ++ cells.drop (off + size)) rest else none
    | _, _ => none

def placesOf (P : Program) (t : TypeId) : Option (Nat → Option (Nat × Nat)) :=
  match P.underlying t with
  | some (.struct fs) => if fs.toList.all (fun f => (P.info? f.type).isSome) then some fun i => (fs[i]?).map fun f => (f.offset, P.cellsOf f.type) else none
  | some (.array _ e) => if (P.info? e).isSome then some fun i => some (i * P.cellsOf e, P.cellsOf e) else none
  | _ => none

/-- Of each cell of a type: the size of its elements, if it is a slice. -/
def cellSizes (P : Program) : Nat → TypeId → List Nat
  | 0, _ => []
  | f + 1, t => match P.underlying t with
    | some (.slice e) => [P.cellsOf e]
    | some (.struct fs) => fs.toList.flatMap fun g => cellSizes P f g.type
    | some (.array n e) => (List.replicate n (cellSizes P f e)).flatten
    | _ => List.replicate (P.cellsOf t) 0

/-- An empty slice of no size gets one. -/
def V.fit (sz : Nat) : V → V
  | .own 0 [] .exact => .own sz [] .exact
  | v => v

def V.isNil : V → Bool
  | .own 0 [] .exact => true
  | _ => false

def fitVs : List Nat → List V → List V
  | s :: ss, v :: vs => v.fit s :: fitVs ss vs
  | _, vs => vs

def fitAgg (P : Program) (t : TypeId) (xs : List V) : List V := if xs.any V.isNil then fitVs (cellSizes P 20 t) xs else xs

def fitV (P : Program) (t : TypeId) (x : V) : V :=
  match x with
  | .own 0 [] .exact => match P.underlying t with | some (.slice e) => .own (P.cellsOf e) [] .exact | _ => x
  | _ => x

def fitT (P : Program) (t : TypeId) : T → T
  | .k (.v x) => .k (.v (fitV P t x))
  | .k (.agg xs) => .k (.agg (fitAgg P t xs))
  | x => x

/-- The structs (and arrays) among arguments. -/
def fitArgs (P : Program) : List TypeId → List T → List T
  | t :: ts, .k (.agg xs) :: r => .k (.agg (fitAgg P t xs)) :: fitArgs P ts r
  | _ :: ts, x :: r => x :: fitArgs P ts r
  | _, r => r

def fitParts (P : Program) (t : TypeId) (ps : List (Nat × T)) : List (Nat × T) := ps.map fun p => (p.1, fitT P t p.2)

def elemTy (P : Program) (t : TypeId) : TypeId := match P.underlying t with | some (.slice e) => e | _ => 0

def zeroOf (P : Program) (t : TypeId) : Option (List V) :=
  match (P.info? t).bind (·.zero) with
  | some z => (ofValueK z).map fun k => fitAgg P t k.cells
  | none => none

def buildT (P : Program) (t : TypeId) (parts : List (Nat × T)) : Option T :=
  match zeroOf P t, placesOf P t with
  | some z, some place => (fillV place z parts).map fun cs => .k (.agg (fitAgg P t cs))
  | _, _ => none

/-- The elements of a slice's literal. -/
def fillE (size len : Nat) : List (List C) → List (Nat × T) → Option (List (List C))
  | es, [] => some es
  | es, (i, x) :: rest =>
    match x.k? with
    | some k => match k.cells.mapM V.toC with
      | some e => if e.length = size ∧ i < len then fillE size len (es.set i e) rest else none
      | none => none
    | none => none

def sliceLit (P : Program) (t : TypeId) (len : Nat) (parts : List (Nat × T)) : Option T :=
  match P.underlying t with
  | some (.slice e) =>
    match zeroOf P e with
    | some z => match z.mapM V.toC with
      | some z =>
        if z.length = P.cellsOf e ∧ 0 < P.cellsOf e ∧ len * P.cellsOf e ≤ 16777216 then
          (fillE (P.cellsOf e) len (List.replicate len z) parts).map fun es => .k (.v (.own (P.cellsOf e) es .exact))
        else none
      | none => none
    | none => none
  | _ => none

def fieldOf (P : Program) (s : TypeId) (i : Nat) : Option Field :=
  match P.underlying s with
  | some (.struct fs) => fs[i]?
  | _ => none

def fieldAddrT (P : Program) (s : TypeId) (x : T) (i : Nat) : Option T :=
  match fieldOf P s i, x.cell? with
  | some f, some (.ptr id off) => if P.cellsOf f.type = 0 then none else some (.k (.v (.ptr id (off + f.offset))))
  | some f, some (.c (.rptr cells)) => if P.cellsOf f.type = 0 then none else some (.k (.v (.c (.rptr (cells.drop f.offset)))))
  | _, _ => none

def partT (P : Program) (t : TypeId) (xs : List V) (off : Nat) : Option T :=
  match aggOf P t with
  | some true => if off + P.cellsOf t ≤ xs.length then some (.k (.agg ((xs.drop off).take (P.cellsOf t)))) else none
  | some false => (xs[off]?).map fun x => .k (.v x)
  | none => none

def fieldT (P : Program) (s : TypeId) (x : T) (i : Nat) : Option T :=
  match fieldOf P s i, x with
  | some f, .k (.agg xs) => partT P f.type xs f.offset
  | _, _ => none

def idxOf (i : T) (n : Nat) : Option Nat :=
  match i.int? with
  | some (_, i) => if 0 ≤ i ∧ i < n then some i.toNat else none
  | none => none

def V.sliceOf : V → Option (Nat × List (List C))
  | .c (.slice sz es) => some (sz, es)
  | .own sz es _ => some (sz, es)
  | _ => none

def indexAddrT (P : Program) (t : TypeId) (x i : T) : Option T :=
  match P.underlying t with
  | some (.array n e) =>
    if (P.info? e).isNone then none else
    match x.cell? with
    | some (.ptr id off) => (idxOf i n).map fun j => .k (.v (.ptr id (off + j * P.cellsOf e)))
    | some (.c (.rptr cells)) => (idxOf i n).map fun j => .k (.v (.c (.rptr (cells.drop (j * P.cellsOf e)))))
    | _ => none
  | some (.slice e) =>
    if (P.info? e).isNone then none else
    match x.cell? with
    | some (.vsl id off sz n) => if sz = P.cellsOf e then (idxOf i n).map fun j => .k (.v (.ptr id (off + j * sz))) else none
    | some v =>
      match v.sliceOf with
      | some (sz, es) =>
        if sz = P.cellsOf e then
          match idxOf i es.length with
          | some j => match es[j]? with | some c => some (.k (.v (.c (.rptr c)))) | none => none
          | none => none
        else none
      | none => none
    | none => none
  | _ => none

def indexT (P : Program) (t : TypeId) (x i : T) : Option T :=
  match P.underlying t, x with
  | some (.array n e), .k (.agg xs) => match idxOf i n with | some j => partT P e xs (j * P.cellsOf e) | none => none
  | some .string, .k (.v (.c (.raw (.string s)))) =>
    match idxOf i s.size with
    | some j => match s[j]? with | some b => some (.pure (.int .u8 b.toNat)) | none => none
    | none => none
  | _, _ => none

def bound (x : Option T) (d top : Nat) : Option Nat :=
  match x with
  | none => some d
  | some x => match x.int? with
    | some (_, i) => if 0 ≤ i ∧ i ≤ top then some i.toNat else none
    | none => none

/-- x[lo:hi:max]. -/
def sliceT (P : Program) (t : TypeId) (x : T) (lo hi mx : Option T) : Option T :=
  match P.underlying t, x.cell? with
  | some .string, some (.c (.raw (.string s))) =>
    match mx with
    | some _ => none
    | none => match bound hi s.size s.size with
      | some h => match bound lo 0 h with
        | some l => some (.pure (.string (s.extract l h)))
        | none => none
      | none => none
  | some (.slice e), some v =>
    match v.sliceOf with
    | some (sz, es) =>
      if (sz = P.cellsOf e ∨ es = []) ∧ (P.info? e).isSome = true then
        match mx with
        | some m =>
          -- only x[k:k:k] with constants within the length: nothing is left of it
          match hi with
          | some h =>
            match m.int?, h.int?, bound lo 0 es.length with
            | some (_, p), some (_, q), some l => if p = q ∧ p = (l : Int) then some (.k (.v (.own (P.cellsOf e) [] .exact))) else none
            | _, _, _ => none
          | none => none
        | none => match bound hi es.length es.length with
          | some h => match bound lo 0 h with
            | some l =>
              match v, hi with
              | .own _ _ .exact, none => some (.k (.v (.own (P.cellsOf e) (es.drop l) .exact)))
              | _, _ => some (.k (.v (.c (.slice (P.cellsOf e) ((es.take h).drop l)))))
            | none => none
          | none => none
      else none
    | none => none
  | some (.array n e), some (.ptr id off) =>
    match mx, bound hi n n with
    | none, some h => match bound lo 0 h with
      | some l => if 0 < P.cellsOf e ∧ l < n then some (.k (.v (.vsl id (off + l * P.cellsOf e) (P.cellsOf e) (h - l)))) else none
      | none => none
    | _, _ => none
  | _, _ => none

def captured (x : T) : Option (C ⊕ (Nat × Nat)) :=
  match x.cell? with
  | some (.ptr id off) => some (.inr (id, off))
  | some v => (v.toC).map .inl
  | none => none

def lenT (P : Program) (t : TypeId) (x : T) : Option T :=
  match P.underlying t, x with
  | some .string, .k (.v (.c (.raw (.string s)))) => some (.pure (.int .i64 s.size))
  | some (.array n _), .k _ => some (.pure (.int .i64 n))
  | some (.slice _), .k (.v (.vsl _ _ _ n)) => some (.pure (.int .i64 n))
  | some (.slice _), .k (.v v) => match v.sliceOf with | some (_, es) => some (.pure (.int .i64 es.length)) | none => none
  | some (.map _ _), .k (.v (.c (.map es))) => some (.pure (.int .i64 es.length))
  | _, _ => none

def minMax (mn : Bool) (x : T) : List T → Option T
  | [] => some x
  | y :: ys => match x.int?, y.int? with
    | some (k, a), some (k', b) => if k = k' then minMax mn (.pure (.int k (if mn then (if b < a then b else a) else (if b > a then b else a)))) ys else none
    | _, _ => none

/-- What is found in a map of numbers. -/
def lookV (q : IntKind) (n : Int) (qv : IntKind) : List (Value × Value) → Option (Int × Bool)
  | [] => some (0, false)
  | (.int a m, .int b x) :: r => if a = q ∧ b = qv then (if n == m then some (x, true) else lookV q n qv r) else none
  | _ :: _ => none

/-- m[k]: the key's kind, the key, the value's kind, what is in the map. -/
def lookArgs (P : Program) (t : TypeId) (x i : T) : Option (IntKind × Int × IntKind × List (Value × Value)) :=
  match P.underlying t with
  | some (.map kt vt) =>
    match P.underlying kt, (P.info? vt).bind (·.zero), x.cell?, i.raw? with
    | some (.int q), some (.int qv z), some (.c (.map es)), some (.int q' n) => if q = q' ∧ z = 0 then some (q, n, qv, es) else none
    | _, _, _, _ => none
  | _ => none

def lookOut (qv : IntKind) (ok : Bool) (r : Int × Bool) : T :=
  if ok then .tup [.v (.c (.raw (.int qv r.1))), .v (.c (.raw (.bool r.2)))] else .pure (.int qv r.1)

def lookupT (P : Program) (t : TypeId) (x i : T) (ok : Bool) : Option T :=
  match lookArgs P t x i with
  | some (q, n, qv, es) => (lookV q n qv es).map (lookOut qv ok)
  | none => none

/-- The most elements that anything may grow to by an append. -/
def most : Nat := 1073741824

/-- append: what is appended, as elements. -/
def appended (P : Program) (t : TypeId) (x : T) : Option (Nat × List (List C)) :=
  match P.underlying t, x.cell? with
  | some (.slice _), some v => v.sliceOf
  | _, _ => none

def appendT (P : Program) (m : Mem) (nt : Nat) (argTypes : List TypeId) (args : List T) : Option Eff :=
  match argTypes, args with
  | [t, tx], [s, x] =>
    match P.underlying t, s.cell?, appended P tx x with
    | some (.slice e), some (.own sz es tk), some (sz', fs) =>
      match P.info? e with
      | some i =>
        if 0 < i.size ∧ i.bytes ≤ 131072 ∧ i.zero.map (·.cells.size) = some i.size ∧ (sz = i.size ∨ es = []) ∧ (sz' = i.size ∨ fs = []) ∧ es.length + fs.length ≤ most then
          match tk with
          | .exact => some { dst := .k (.v (.own i.size (es ++ fs) (.tok nt))), ut := [(nt, (es ++ fs).length)] }
          | .tok j =>
            if sz = i.size ∧ m.tok j = some es.length then some { dst := .k (.v (.own sz (es ++ fs) (.tok j))), ut := [(j, (es ++ fs).length)], rt := [j] } else none
        else none
      | none => none
    | _, _, _ => none
  | _, _ => none

/-- A variable's cells, as they are now, for good. -/
def snap (m : Mem) (id off : Nat) : Option (List C) :=
  match m.var id with
  | some xs => (xs.drop off).mapM V.toC
  | none => none

def chunks (sz : Nat) : Nat → List C → Option (List (List C))
  | 0, _ => some []
  | n + 1, cs => if sz ≤ cs.length then (chunks sz n (cs.drop sz)).map fun r => cs.take sz :: r else none

/-- An argument of a call, with the variables that were looked at. -/
def capOf (m : Mem) : C ⊕ (Nat × Nat) → Option C
  | .inl x => some x
  | .inr (id, off) => (snap m id off).map .rptr

def capReads : C ⊕ (Nat × Nat) → List Nat
  | .inl _ => []
  | .inr (id, _) => [id]

/-- A value as an argument. 'nil': a slice of length and capacity 0. -/
def V.toA : V → Option A
  | .own 0 [] .exact => some .nil
  | v => v.toC.map .c

/-- The arguments; what is lent (variable, offset, its cells), from the k-th on; of which variables the cells were looked at. -/
def argsOf (P : Program) (m : Mem) : List TypeId → List T → Nat → Option (List A × List (Nat × Nat × List C) × List Nat)
  | [], [], _ => some ([], [], [])
  | t :: ts, x :: xs, k =>
    match x with
    | .k (.agg ys) =>
      match ys.mapM V.toC, argsOf P m ts xs k with
      | some cs, some (as, ls, rs) => some (.agg cs :: as, ls, rs)
      | _, _ => none
    | .k (.v (.ptr id off)) =>
      match P.underlying t, m.var id with
      | some (.pointer e), some ys =>
        if off + P.cellsOf e ≤ ys.length then
          match ((ys.drop off).take (P.cellsOf e)).mapM V.toC, argsOf P m ts xs (k + 1) with
          | some cs, some (as, ls, rs) => some (.imp k :: as, (id, off, cs) :: ls, rs)
          | _, _ => none
        else none
      | _, _ => none
    | .k (.v (.vsl id off sz n)) =>
      match snap m id off with
      | some cs => match chunks sz n cs, argsOf P m ts xs k with
        | some es, some (as, ls, rs) => some (.c (.slice sz es) :: as, ls, id :: rs)
        | _, _ => none
      | none => none
    | .k (.v (.clo f caps)) =>
      match caps.mapM (capOf m), argsOf P m ts xs k with
      | some cs, some (as, ls, rs) => some (.c (.fn f cs) :: as, ls, caps.flatMap capReads ++ rs)
      | _, _ => none
    | .k (.v v) =>
      match v.toA, argsOf P m ts xs k with
      | some c, some (as, ls, rs) => some (c :: as, ls, rs)
      | _, _ => none
    | _ => none
  | _, _, _ => none

/-- A result that says nothing of memory. -/
def Res.bare : Res → Bool
  | .c (.raw _) => true
  | _ => false

/-- Results as a frame's values; a token for each that may be appended to. -/
def resK (nt : Nat) : List Res → List K × List (Nat × Nat)
  | [] => ([], [])
  | .c x :: rs => let (ks, ut) := resK nt rs; (.v (.c x) :: ks, ut)
  | .agg xs :: rs => let (ks, ut) := resK nt rs; (.agg (xs.map .c) :: ks, ut)
  | .top sz es :: rs => let (ks, ut) := resK (nt + 1) rs; (.v (.own sz es (.tok nt)) :: ks, (nt, es.length) :: ut)

def resT (ks : List K) : T :=
  match ks with
  | [k] => .k k
  | ks => .tup ks

def disjointIds : List Nat → Bool
  | [] => true
  | x :: xs => !xs.contains x && disjointIds xs

def callT (E : Env) (m : Mem) (nt : Nat) (g : FuncId) (extra : List C) (argTypes : List TypeId) (args : List T) : Option Eff :=
  match argsOf E.P m argTypes args 0 with
  | some (as, ls, rs) =>
    match E.F g (as ++ extra.map .c) (ls.map (·.2.2)) with
    | some (res, ims) =>
      let r := resK nt res
      match ls, ims with
      | [], [] => if rs.isEmpty || res.all Res.bare then some { dst := resT r.1, ut := r.2, rv := rs } else some { dst := resT r.1, uv := rs.map fun id => (id, []), ut := r.2, rv := rs }
      | [(id, off, cs)], [ds] =>
        match m.var id with
        | some ys => if rs.isEmpty ∧ ds.length = cs.length then some { dst := resT r.1, uv := [(id, ys.take off ++ ds.map .c ++ ys.drop (off + ds.length))], ut := r.2, rv := [id] } else none
        | none => none
      | _, _ => none
    | none => none
  | none => none

def evalOp (E : Env) (m : Mem) (nv nt : Nat) (o : Oper) : Option Eff :=
  let ρ := E.ev m
  match o.op with
  | .move x | .assign x => some { dst := match x with | .const _ => fitT E.P o.type (ρ x) | _ => ρ x }
  | .pick c a b => match (ρ c).bool? with | some q => some { dst := if q then ρ a else ρ b } | none => none
  | .alloc t => match zeroOf E.P t with | some cs => some { dst := .k (.v (.ptr nv 0)), nv := some cs } | none => none
  | .box _ x => match (ρ x).k? with | some k => some { dst := .k (.v (.ptr nv 0)), nv := some k.cells } | none => none
  | .build t parts => (buildT E.P t (parts.toList.map fun (i, x) => (i, ρ x))).map fun x => { dst := x }
  | .buildSlice t len parts => (sliceLit E.P t len (fitParts E.P (elemTy E.P t) (parts.toList.map fun (i, x) => (i, ρ x)))).map fun x => { dst := x }
  | .load t a =>
    match (ρ a).cell? with
    | some (.ptr id off) => match m.var id with
      | some xs => (readAt E.P t (xs.drop off)).map fun k => { dst := .k k, rv := [id] }
      | none => none
    | some (.c (.rptr cells)) => (readAt E.P t (cells.map .c)).map fun k => { dst := .k k }
    | _ => none
  | .store t a x =>
    match (ρ a).cell?, (fitT E.P t (ρ x)).k? with
    | some (.ptr id off), some k => match m.var id with
      | some xs => if k.cells.length = E.P.cellsOf t ∧ off + k.cells.length ≤ xs.length ∧ (E.P.info? t).isSome = true then
          some { dst := .skip, uv := [(id, xs.take off ++ k.cells ++ xs.drop (off + k.cells.length))], rv := [id] } else none
      | none => none
    | _, _ => none
  | .nilCheck x =>
    match (ρ x).cell? with
    | some (.ptr _ _) | some (.c (.rptr _)) | some (.clo _ _) | some (.c (.fn _ _)) => some { dst := ρ x }
    | _ => none
  | .binOp op t x y _ => (binT E.P op t (ρ x) (ρ y)).map fun x => { dst := x }
  | .unOp op _ x => (unT op (ρ x)).map fun x => { dst := x }
  | .convert src dst x => (convT E.P src dst (ρ x)).map fun x => { dst := x }
  | .makeFunc (.func f) first caps => if first.isEmpty then (caps.toList.mapM fun x => captured (ρ x)).map fun cs => { dst := .k (.v (.clo f cs)) } else none
  | .slice t x lo hi mx => (sliceT E.P t (ρ x) (lo.map ρ) (hi.map ρ) (mx.map ρ)).map fun x => { dst := x }
  | .fieldAddr s x i => (fieldAddrT E.P s (ρ x) i).map fun x => { dst := x }
  | .field s x i => (fieldT E.P s (ρ x) i).map fun x => { dst := x }
  | .indexAddr t x i => (indexAddrT E.P t (ρ x) (ρ i)).map fun x => { dst := x }
  | .index t x i => (indexT E.P t (ρ x) (ρ i)).map fun x => { dst := x }
  | .lookup t x i ok => (lookupT E.P t (ρ x) (ρ i) ok).map fun x => { dst := x }
  | .extract x i => match ρ x with | .tup ks => (ks[i]?).map fun k => { dst := .k k } | _ => none
  | .call { callee := .builtin .len, args, argTypes } =>
    match argTypes.toList, args.toList with
    | t :: _, [x] => (lenT E.P t (ρ x)).map fun x => { dst := x }
    | _, _ => none
  | .call { callee := .builtin .min, args, argTypes := _ } => match args.toList with | x :: xs => (minMax true (ρ x) (xs.map ρ)).map fun x => { dst := x } | [] => none
  | .call { callee := .builtin .max, args, argTypes := _ } => match args.toList with | x :: xs => (minMax false (ρ x) (xs.map ρ)).map fun x => { dst := x } | [] => none
  | .call { callee := .builtin .append, args, argTypes } => appendT E.P m nt argTypes.toList (args.toList.map ρ)
  | .call { callee := .value f, args, argTypes } =>
    match (ρ f).cell? with
    | some (.clo g []) => callT E m nt g [] argTypes.toList (fitArgs E.P argTypes.toList (args.toList.map ρ))
    | some (.c (.fn g caps)) => callT E m nt g caps argTypes.toList (fitArgs E.P argTypes.toList (args.toList.map ρ))
    | _ => none
  | _ => none
end Go.Dm
