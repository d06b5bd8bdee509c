/- The abstract machine: values, memory, operations, code, runs. -/
import GoSem.Step
namespace Go.AM

/-- A value of one cell. Addresses are (number of an abstract block, place in it). -/
inductive SV where
  | int (k : IntKind) (n : Int)
  | bool (b : Bool)
  | str (s : List UInt8)
  | ptr (a : Option (Nat × Nat))
  | sl (a : Option (Nat × Nat)) (len cap : Nat) (ex : Bool) (sz : Nat)
  | map (a : Option Nat)
  | fn (f : FuncId) (first caps : List (Nat × Nat))
  | nilfn
  deriving DecidableEq, Repr, Inhabited

inductive AV where
  | s (v : SV)
  | agg (cs : List SV)
  | tup (vs : List (Bool × List SV))
  deriving DecidableEq, Repr, Inhabited

/-- A map from numbers. -/
inductive Tr (α : Type) where
  | nil
  | node (l : Tr α) (v : Option α) (r : Tr α)
  deriving Repr

def Tr.get {α : Type} : Tr α → Nat → Option α
  | .nil, _ => none
  | .node _ v _, 0 => v
  | .node l _ r, n + 1 => if n % 2 = 0 then l.get (n / 2) else r.get (n / 2)

def Tr.putF {α : Type} (x : Option α) : Nat → Tr α → Nat → Tr α
  | 0, t, _ => t
  | _ + 1, .nil, 0 => .node .nil x .nil
  | _ + 1, .node l _ r, 0 => .node l x r
  | f + 1, .nil, n + 1 => if n % 2 = 0 then .node (Tr.putF x f .nil (n / 2)) none .nil else .node .nil none (Tr.putF x f .nil (n / 2))
  | f + 1, .node l v r, n + 1 => if n % 2 = 0 then .node (Tr.putF x f l (n / 2)) v r else .node l v (Tr.putF x f r (n / 2))

def Tr.put {α : Type} (t : Tr α) (n : Nat) (x : Option α) : Tr α := Tr.putF x (n + 1) t n

def Tr.perf {α : Type} : Nat → Tr α
  | 0 => .nil
  | d + 1 => .node (Tr.perf d) none (Tr.perf d)

inductive AO where
  | cells (cs : List SV) (t : TypeId) (ro : Bool)
  | map (es : List (AV × SV))
  deriving DecidableEq, Repr, Inhabited

structure H where
  m : Tr AO
  nx : Nat

def H.get (h : H) (i : Nat) : Option AO := h.m.get i
def H.set (h : H) (i : Nat) (o : AO) : H := { h with m := h.m.put i (some o) }
def H.del (h : H) (i : Nat) : H := { h with m := h.m.put i none }
def H.new (h : H) (o : AO) : H := { m := h.m.put h.nx (some o), nx := h.nx + 1 }

abbrev Env := Tr AV

inductive X where
  | t (n : Nat)
  | c (v : AV)
  deriving DecidableEq, Repr, Inhabited

def X.ev (e : Env) : X → Option AV
  | .t n => e.get n
  | .c v => some v

/-- What is sliced or indexed. -/
inductive Sh where
  | str
  | sl (sz : Nat)
  | arr (n sz : Nat)
  deriving DecidableEq, Repr, Inhabited

/-- What a cell holds. -/
inductive K where
  | b | i | s
  deriving DecidableEq, Repr, Inhabited

/-- What is compared: cells, or nil with something. -/
inductive Q where
  | k (g : Bool) (ks : List K)
  | ptr | sl | map | fn
  deriving DecidableEq, Repr, Inhabited

inductive Op where
  -- they touch no memory
  | mv (x : X)
  | pick (c a b : X)
  | build (z : List SV) (ps : List (Nat × Nat × X))
  | nilck (x : X)
  | bin (op : BinOp) (x y : X)
  | eqv (q : Q) (neg : Bool) (x y : X)
  | un (op : UnOp) (x : X)
  | conv (k : IntKind) (x : X)
  | same (x : X)
  | mkfn (f : FuncId) (first caps : List X)
  | slc (sh : Sh) (x : X) (lo hi mx : Option X)
  | fld (off : Nat) (x : X)
  | getf (agg : Bool) (off n : Nat) (x : X)
  | idxa (sh : Sh) (x i : X)
  | idx (sh : Sh) (agg : Bool) (x i : X)
  | ext (x : X) (i : Nat)
  | len (sh : Sh) (x : X)
  | cap (x : X)
  | mx (xs : List X)
  | mn (xs : List X)
  -- they read
  | ld (agg : Bool) (n : Nat) (a : X)
  | lookup (g : Bool) (ks : List K) (z : SV) (m k : X) (ok : Bool)
  | b2s (x : X)
  -- they make
  | alloc (t : TypeId) (z : List SV)
  | box (t : TypeId) (x : X)
  | bslice (t : TypeId) (sz len : Nat) (z : List SV) (ps : List (Nat × Nat × X))
  | mkslice (t : TypeId) (z : List SV) (bytes : Nat) (l c : X)
  | mkmap
  | s2b (t : TypeId) (x : X)
  -- they act
  | st (n : Nat) (a v : X)
  | mupd (g : Bool) (ks : List K) (m k v : X)
  | app (t : TypeId) (sz bytes : Nat) (s x : X)
  | app0 (t : TypeId) (z : List SV) (bytes : Nat) (s x : X)
  | copy (sz : Nat) (d s : X)
  | clear (z : List SV) (s : X)
  | call (f : FuncId) (args : List X)
  | callv (f : X) (args : List X)
  deriving DecidableEq, Repr, Inhabited

inductive Cls where
  | pure | read | make | act
  deriving DecidableEq, Repr, Inhabited

def Op.cls : Op → Cls
  | .mv .. | .pick .. | .build .. | .nilck .. | .bin .. | .eqv .. | .un .. | .conv .. | .same .. | .mkfn .. | .slc .. | .fld .. | .getf .. | .idxa .. | .idx .. | .ext .. | .len .. | .cap .. | .mx .. | .mn .. => .pure
  | .ld .. | .lookup .. | .b2s .. => .read
  | .alloc .. | .box .. | .bslice .. | .mkslice .. | .mkmap | .s2b .. => .make
  | _ => .act

structure Or where
  dst : Option Nat
  op : Op
  guard : Option (Nat × Bool)
  /-- the operations that must lie ahead, as bits -/
  bef : Nat
  deriving DecidableEq, Repr, Inhabited

inductive C where
  | skip
  | reg (draw : Bool) (ops : List Or) (drops : List Nat)
  | seq (a b : C)
  | cond (c : X) (a b : C)
  | blk (id : Nat) (b : C)
  | loop (b : C)
  | exit (id : Nat)
  | ret
  deriving DecidableEq, Repr, Inhabited

inductive RV where
  | t (n : Nat)
  | cell (n : Nat) (agg : Bool) (sz : Nat)
  deriving DecidableEq, Repr, Inhabited

structure Fn where
  depth : Nat
  results : List RV
  body : C
  deriving Repr, Inhabited

inductive Ex where
  | n
  | x (id : Nat)
  | r
  deriving DecidableEq, Repr, Inhabited

/-! ### operations -/

def asInt : AV → Option (IntKind × Int)
  | .s (.int k n) => some (k, n)
  | _ => none

def evs (e : Env) : List X → Option (List AV)
  | [] => some []
  | x :: xs => match x.ev e with
    | some v => match evs e xs with
      | some vs => some (v :: vs)
      | none => none
    | none => none

def splice (cs : List SV) (o : Nat) (vs : List SV) : List SV := cs.take o ++ vs ++ cs.drop (o + vs.length)

def rep (n : Nat) (z : List SV) : List SV := (List.replicate n z).flatten

def AV.cs : AV → Option (List SV)
  | .s v => some [v]
  | .agg cs => some cs
  | .tup _ => none

def fill (e : Env) : List SV → List (Nat × Nat × X) → Option (List SV)
  | cs, [] => some cs
  | cs, (off, n, x) :: ps => match (x.ev e).bind AV.cs with
    | some vs => if vs.length = n ∧ off + n ≤ cs.length then fill e (splice cs off vs) ps else none
    | none => none

def bytesLess : List UInt8 → List UInt8 → Bool
  | _, [] => false
  | [], _ :: _ => true
  | a :: x, b :: y => a < b || (a == b && bytesLess x y)

def bin (op : BinOp) (x y : AV) : Option AV :=
  match x, y with
  | .s (.int k a), .s (.int k' b) =>
    match op with
    | .shl => if b < 0 then none else some (.s (.int k (k.wrap (a * 2 ^ min b.toNat k.bits))))
    | .shr => if b < 0 then none else some (.s (.int k (a.fdiv (2 ^ min b.toNat k.bits))))
    | _ => if k = k' then match op with
      | .add => some (.s (.int k (k.wrap (a + b))))
      | .sub => some (.s (.int k (k.wrap (a - b))))
      | .mul => some (.s (.int k (k.wrap (a * b))))
      | .quo => if b = 0 then none else some (.s (.int k (k.wrap (a.tdiv b))))
      | .rem => if b = 0 then none else some (.s (.int k (a.tmod b)))
      | .and => some (.s (.int k (k.wrap (BitVec.ofInt k.bits a &&& BitVec.ofInt k.bits b).toNat)))
      | .or => some (.s (.int k (k.wrap (BitVec.ofInt k.bits a ||| BitVec.ofInt k.bits b).toNat)))
      | .xor => some (.s (.int k (k.wrap (BitVec.ofInt k.bits a ^^^ BitVec.ofInt k.bits b).toNat)))
      | .andNot => some (.s (.int k (k.wrap (BitVec.ofInt k.bits a &&& ~~~(BitVec.ofInt k.bits b)).toNat)))
      | .eql => some (.s (.bool (a == b)))
      | .neq => some (.s (.bool (a != b)))
      | .lss => some (.s (.bool (a < b)))
      | .leq => some (.s (.bool (a ≤ b)))
      | .gtr => some (.s (.bool (a > b)))
      | .geq => some (.s (.bool (a ≥ b)))
      | _ => none
      else none
  | .s (.str a), .s (.str b) =>
    match op with
    | .add => if a.length + b.length ≤ 2 ^ 40 then some (.s (.str (a ++ b))) else none
    | .eql => some (.s (.bool (a == b)))
    | .neq => some (.s (.bool (!(a == b))))
    | .lss => some (.s (.bool (bytesLess a b)))
    | _ => none
  | _, _ => none

/-- Are two cells the same (numbers, truth values, strings)? -/
def eqc : K → SV → SV → Option Bool
  | .i, .int k a, .int k' b => if k = k' then some (a == b) else none
  | .b, .bool a, .bool b => some (a == b)
  | .s, .str a, .str b => some (a == b)
  | _, _, _ => none

def eqcs : List K → List SV → List SV → Option Bool
  | [], [], [] => some true
  | k :: ks, a :: as, b :: bs => match eqc k a b, eqcs ks as bs with
    | some x, some y => some (x && y)
    | _, _ => none
  | _, _, _ => none

/-- The same by their cells: a number, a truth value, a string, a struct, an array. -/
def eqk (g : Bool) (ks : List K) : AV → AV → Option Bool
  | .s a, .s b => if g then none else eqcs ks [a] [b]
  | .agg a, .agg b => if g then eqcs ks a b else none
  | _, _ => none

def eqv : Q → AV → AV → Option Bool
  | .ptr, .s (.ptr none), .s (.ptr b) => some b.isNone
  | .ptr, .s (.ptr (some _)), .s (.ptr none) => some false
  | .sl, .s (.sl none _ _ _ _), .s (.sl b _ _ _ _) => some b.isNone
  | .sl, .s (.sl (some _) _ _ _ _), .s (.sl none _ _ _ _) => some false
  | .map, .s (.map none), .s (.map b) => some b.isNone
  | .map, .s (.map (some _)), .s (.map none) => some false
  | .fn, .s .nilfn, .s .nilfn => some true
  | .fn, .s (.fn _ _ _), .s .nilfn => some false
  | .fn, .s .nilfn, .s (.fn _ _ _) => some false
  | .k g ks, a, b => eqk g ks a b
  | _, _, _ => none

def un (op : UnOp) (x : AV) : Option AV :=
  match op, x with
  | .neg, .s (.int k n) => some (.s (.int k (k.wrap (0 - n))))
  | .xor, .s (.int k n) => some (.s (.int k (k.wrap (BitVec.ofInt k.bits (if k.signed then -1 else k.max) ^^^ BitVec.ofInt k.bits n).toNat)))
  | .not, .s (.bool b) => some (.s (.bool (!b)))
  | _, _ => none

def addrs (e : Env) : List X → Option (List (Nat × Nat))
  | [] => some []
  | x :: xs => match x.ev e, addrs e xs with
    | some (.s (.ptr (some a))), some l => some (a :: l)
    | _, _ => none

/-- A bound of a slice expression, from 0 to y. -/
def bound (e : Env) (d : Nat) (y : Nat) : Option X → Option Nat
  | none => some d
  | some x => match x.ev e with
    | some (.s (.int _ i)) => if 0 ≤ i ∧ i ≤ (y : Int) then some i.toNat else none
    | _ => none

def slc (e : Env) (sh : Sh) (x : AV) (lo hi mx : Option X) : Option AV :=
  match sh, x with
  | .str, .s (.str s) =>
    if mx.isSome then none else
    match bound e s.length s.length hi with
    | some h => match bound e 0 h lo with
      | some l => some (.s (.str ((s.take h).drop l)))
      | none => none
    | none => none
  | .sl sz, .s (.sl a len cap ex z) =>
    if a.isSome ∧ z ≠ sz then none else
    if mx.isSome ∧ hi.isNone then none else
    -- a bound that only the capacity allows is taken for one that is known
    match bound e cap cap mx with
    | some m => match bound e len m hi with
      | some h => match bound e 0 h lo with
        | some l => some (.s (.sl (a.map fun (i, o) => (i, o + l * sz)) (h - l) (m - l) (ex || mx.isSome) sz))
        | none => none
      | none => none
    | none => none
  | .arr n sz, .s (.ptr (some (i, o))) =>
    if mx.isSome then none else
    match bound e n n hi with
    | some h => match bound e 0 h lo with
      | some l => some (.s (.sl (some (i, o + l * sz)) (h - l) (n - l) true sz))
      | none => none
    | none => none
  | _, _ => none

def part (agg : Bool) (cs : List SV) (off n : Nat) : Option AV :=
  if off + n ≤ cs.length then
    if agg then some (.agg ((cs.drop off).take n)) else (cs[off]?).map .s
  else none

def stepI (f : Int → Int → Int) (acc : Option AV) (y : AV) : Option AV :=
  match acc, y with
  | some (.s (.int k a)), .s (.int k' b) => if k = k' then some (.s (.int k (f a b))) else none
  | _, _ => none

def foldI (f : Int → Int → Int) : List AV → Option AV
  | .s (.int k a) :: xs => xs.foldl (stepI f) (some (.s (.int k a)))
  | _ => none

def pureOp (e : Env) : Op → Option AV
  | .mv x => x.ev e
  | .pick c a b => match c.ev e with
    | some (.s (.bool t)) => if t then a.ev e else b.ev e
    | _ => none
  | .build z ps => (fill e z ps).map .agg
  | .nilck x => match x.ev e with
    | some (.s (.ptr (some a))) => some (.s (.ptr (some a)))
    | _ => none
  | .bin op x y => match x.ev e, y.ev e with
    | some a, some b => bin op a b
    | _, _ => none
  | .eqv q neg x y => match x.ev e, y.ev e with
    | some a, some b => (eqv q a b).map fun r => .s (.bool (r != neg))
    | _, _ => none
  | .un op x => match x.ev e with
    | some a => un op a
    | none => none
  | .conv k x => match x.ev e with
    | some (.s (.int _ n)) => some (.s (.int k (k.wrap n)))
    | _ => none
  | .same x => match x.ev e with
    | some (.s (.str s)) => some (.s (.str s))
    | _ => none
  | .mkfn f first caps => match addrs e first, addrs e caps with
    | some a, some b => some (.s (.fn f a b))
    | _, _ => none
  | .slc sh x lo hi mx => match x.ev e with
    | some v => slc e sh v lo hi mx
    | none => none
  | .fld off x => match x.ev e with
    | some (.s (.ptr (some (i, o)))) => some (.s (.ptr (some (i, o + off))))
    | _ => none
  | .getf agg off n x => match x.ev e with
    | some (.agg cs) => part agg cs off n
    | _ => none
  | .idxa sh x i => match sh, x.ev e, i.ev e with
    | .arr n sz, some (.s (.ptr (some (b, o)))), some (.s (.int _ i)) => if 0 ≤ i ∧ i < (n : Int) then some (.s (.ptr (some (b, o + i.toNat * sz)))) else none
    | .sl sz, some (.s (.sl (some (b, o)) len _ _ z)), some (.s (.int _ i)) => if z = sz ∧ 0 ≤ i ∧ i < (len : Int) then some (.s (.ptr (some (b, o + i.toNat * sz)))) else none
    | _, _, _ => none
  | .idx sh agg x i => match sh, x.ev e, i.ev e with
    | .arr n sz, some (.agg cs), some (.s (.int _ i)) => if 0 ≤ i ∧ i < (n : Int) then part agg cs (i.toNat * sz) sz else none
    | .str, some (.s (.str s)), some (.s (.int _ i)) => if 0 ≤ i then (s[i.toNat]?).map fun b => .s (.int .u8 b.toNat) else none
    | _, _, _ => none
  | .ext x i => match x.ev e with
    | some (.tup vs) => match vs[i]? with
      | some (true, cs) => some (.agg cs)
      | some (false, [v]) => some (.s v)
      | _ => none
    | _ => none
  | .len sh x => match sh, x.ev e with
    | .arr n _, _ => some (.s (.int .i64 n))
    | .str, some (.s (.str s)) => some (.s (.int .i64 s.length))
    | .sl _, some (.s (.sl _ len _ _ _)) => some (.s (.int .i64 len))
    | _, _ => none
  | .cap x => match x.ev e with
    | some (.s (.sl _ _ cap true _)) => some (.s (.int .i64 cap))
    | _ => none
  | .mx xs => (evs e xs).bind (foldI fun a b => if b > a then b else a)
  | .mn xs => (evs e xs).bind (foldI fun a b => if b < a then b else a)
  | _ => none

/-- n cells from a place on. -/
def cellsAt (h : H) (i o n : Nat) : Option (List SV) :=
  match h.get i with
  | some (.cells cs _ _) => if o + n ≤ cs.length then some ((cs.drop o).take n) else none
  | _ => none

def bytesOf : List SV → Option (List UInt8)
  | [] => some []
  | .int .u8 n :: r => (bytesOf r).map (UInt8.ofNat n.toNat :: ·)
  | _ => none

/-- Where a key stands among entries. -/
def ixOf (g : Bool) (ks : List K) (k : AV) : List (AV × SV) → Nat → Option (Option Nat)
  | [], _ => some none
  | e :: es, i => match eqk g ks k e.1 with
    | some true => some (some i)
    | some false => ixOf g ks k es (i + 1)
    | none => none

def readOp (e : Env) (h : H) : Op → Option AV
  | .ld agg n a => match a.ev e with
    | some (.s (.ptr (some (i, o)))) => match cellsAt h i o n with
      | some cs => if agg then some (.agg cs) else match cs with | [v] => some (.s v) | _ => none
      | none => none
    | _ => none
  | .lookup g ks z m k ok => match m.ev e, k.ev e with
    | some (.s (.map (some i))), some kv => if (eqk g ks kv kv).isSome then match h.get i with
      | some (.map es) => match ixOf g ks kv es 0 with
        | some none => some (if ok then .tup [(false, [z]), (false, [.bool false])] else .s z)
        | some (some j) => match es[j]? with
          | some en => some (if ok then .tup [(false, [en.2]), (false, [.bool true])] else .s en.2)
          | none => none
        | none => none
      | _ => none
      else none
    | _, _ => none
  | .b2s x => match x.ev e with
    | some (.s (.sl none _ _ _ _)) => some (.s (.str []))
    | some (.s (.sl (some (i, o)) len _ _ z)) => if z ≠ 1 then none else match (cellsAt h i o len).bind bytesOf with
      | some s => some (.s (.str s))
      | none => none
    | _ => none
  | _ => none

/-- What is made, and the value out of its number. -/
def makeOp (e : Env) : Op → Option (AO × (Nat → AV))
  | .alloc t z => some (.cells z t false, fun i => .s (.ptr (some (i, 0))))
  | .box t x => match (x.ev e).bind AV.cs with
    | some cs => some (.cells cs t false, fun i => .s (.ptr (some (i, 0))))
    | none => none
  | .bslice t sz len z ps => match fill e z ps with
    | some cs => if cs.length = len * sz then some (.cells cs t false, fun i => .s (.sl (some (i, 0)) len len true sz)) else none
    | none => none
  | .mkslice t z bytes l c => match l.ev e, c.ev e with
    | some (.s (.int .i64 l)), some (.s (.int .i64 c)) =>
      if 0 ≤ l ∧ l ≤ c ∧ c ≤ 1099511627776 ∧ bytes * c.toNat ≤ 1099511627776 then some (.cells (rep c.toNat z) t false, fun i => .s (.sl (some (i, 0)) l.toNat c.toNat true z.length)) else none
    | _, _ => none
  | .mkmap => some (.map [], fun i => .s (.map (some i)))
  | .s2b t x => match x.ev e with
    | some (.s (.str s)) => some (.cells (s.map fun b => .int .u8 b.toNat) t false, fun i => .s (.sl (some (i, 0)) s.length s.length false 1))
    | _ => none
  | _ => none

/-- The cells of what is appended or copied. -/
def srcCells (h : H) (sz : Nat) : AV → Option (List SV)
  | .s (.sl none _ _ _ _) => some []
  | .s (.sl (some (i, o)) len _ _ z) => if z = sz then cellsAt h i o (len * sz) else none
  | .s (.str s) => if sz = 1 then some (s.map fun b => .int .u8 b.toNat) else none
  | _ => none

def most : Nat := 1099511627776

def appendTo (h : H) (t : TypeId) (sz bytes : Nat) (s : AV) (xs : List SV) (n : Nat) : Option (AV × H) :=
  match s with
  | .s (.sl a len cap ex z) =>
    if a.isSome ∧ z ≠ sz ∨ xs.length ≠ n * sz then none
    else if n = 0 then some (.s (.sl a len cap ex z), h)
    else if len + n ≤ cap then
      match a with
      | some (i, o) => match h.get i with
        | some (.cells cs t' false) => if o + (len + n) * sz ≤ cs.length then some (.s (.sl a (len + n) cap ex z), h.set i (.cells (splice cs (o + len * sz) xs) t' false)) else none
        | _ => none
      | none => none
    else if (len + n + 512) * bytes > most ∨ len + n > most then none
    else match a with
      | none => if len = 0 ∧ ex = true then some (.s (.sl (some (h.nx, 0)) n n false sz), h.new (.cells xs t false)) else none
      | some (i, o) => match h.get i with
        | some (.cells cs t' ro) =>
          if o + len * sz ≤ cs.length then
            if ex then some (.s (.sl (some (h.nx, 0)) (len + n) (len + n) false sz), h.new (.cells ((cs.drop o).take (len * sz) ++ xs) t false))
            else if ro ∨ t' ≠ t then none
            else some (.s (.sl (some (h.nx, 0)) (len + n) (len + n) false sz), (h.del i).new (.cells ((cs.drop o).take (len * sz) ++ xs) t false))
          else none
        | _ => none
  | _ => none

def lenOf : AV → Option Nat
  | .s (.sl _ len _ _ _) => some len
  | .s (.str s) => some s.length
  | _ => none

def ofAddr (a : Nat × Nat) : AV := .s (.ptr (some a))

def actOp (cl : FuncId → List AV → H → Option (AV × H)) (e : Env) (h : H) : Op → Option (Option AV × H)
  | .st n a v => match a.ev e, (v.ev e).bind AV.cs with
    | some (.s (.ptr (some (i, o)))), some vs => match h.get i with
      | some (.cells cs t false) => if vs.length = n ∧ o + n ≤ cs.length then some (none, h.set i (.cells (splice cs o vs) t false)) else none
      | _ => none
    | _, _ => none
  | .mupd g ks m k v => match m.ev e, k.ev e, v.ev e with
    | some (.s (.map (some i))), some kv, some (.s x) => if (eqk g ks kv kv).isSome then match h.get i with
      | some (.map es) => match ixOf g ks kv es 0 with
        | some none => some (none, h.set i (.map (es ++ [(kv, x)])))
        | some (some j) => some (none, h.set i (.map (es.set j (kv, x))))
        | none => none
      | _ => none
      else none
    | _, _, _ => none
  | .app t sz bytes s x => match s.ev e, x.ev e with
    | some sv, some xv => match srcCells h sz xv, lenOf xv with
      | some xs, some n => match appendTo h t sz bytes sv xs n with
        | some (v, h) => some (some v, h)
        | none => none
      | _, _ => none
    | _, _ => none
  | .app0 t z bytes s x => match s.ev e, x.ev e with
    | some sv, some (.s (.int .i64 n)) => if 0 ≤ n ∧ n ≤ most ∧ n.toNat * bytes ≤ most then match appendTo h t z.length bytes sv (rep n.toNat z) n.toNat with
        | some (v, h) => some (some v, h)
        | none => none
      else none
    | _, _ => none
  | .copy sz d s => match d.ev e, s.ev e with
    | some (.s (.sl a dl _ _ z)), some sv => match srcCells h sz sv, lenOf sv with
      | some xs, some sl => if a.isSome ∧ z ≠ sz then none else
        let n := min sl dl
        match a with
        | none => some (some (.s (.int .i64 n)), h)
        | some (i, o) => if n = 0 then some (some (.s (.int .i64 n)), h) else match h.get i with
          | some (.cells cs t false) => if o + n * sz ≤ cs.length then some (some (.s (.int .i64 n)), h.set i (.cells (splice cs o (xs.take (n * sz))) t false)) else none
          | _ => none
      | _, _ => none
    | _, _ => none
  | .clear z s => match s.ev e with
    | some (.s (.sl a n _ _ sz)) => if n = 0 then some (none, h) else match a with
      | none => some (none, h)
      | some (i, o) => match h.get i with
        | some (.cells cs t false) => if sz = z.length ∧ o + n * sz ≤ cs.length then some (none, h.set i (.cells (splice cs o (rep n z)) t false)) else none
        | _ => none
    | _ => none
  | .call f args => match evs e args with
    | some vs => match cl f vs h with
      | some (v, h) => some (some v, h)
      | none => none
    | none => none
  | .callv f args => match f.ev e, evs e args with
    | some (.s (.fn f first caps)), some vs => match cl f (first.map ofAddr ++ vs ++ caps.map ofAddr) h with
      | some (v, h) => some (some v, h)
      | none => none
    | _, _ => none
  | _ => none

/-! ### regions -/

def setD (e : Env) (d : Option Nat) (v : Option AV) : Env :=
  match d with
  | some n => e.put n v
  | none => e

def wants (e : Env) : Option (Nat × Bool) → Option Bool
  | none => some true
  | some (n, b) => match e.get n with
    | some (.s (.bool c)) => some (c == b)
    | some (.tup _) => some false
    | _ => none

/-- A read that was done: its operands' frame, itself, what it gave, its place. -/
structure Rd where
  e : Env
  op : Op
  v : AV
  i : Nat

/-- Reads that need not lie ahead of an action give the same behind it. -/
def reread (h : H) (bef : Nat) : List Rd → Bool
  | [] => true
  | r :: rs => (bef.testBit r.i || readOp r.e h r.op == some r.v) && reread h bef rs

/-- The block that is read. -/
def rdId (e : Env) : Op → Nat
  | .ld _ _ a => match a.ev e with
    | some (.s (.ptr (some (i, _)))) => i
    | _ => 0
  | .lookup _ _ _ m _ _ => match m.ev e with
    | some (.s (.map (some i))) => i
    | _ => 0
  | .b2s x => match x.ev e with
    | some (.s (.sl (some (i, _)) _ _ _ _)) => i
    | _ => 0
  | _ => 0

/-- A read that need not lie behind an action gives the same ahead of it (where its block was there). -/
def early (e : Env) (op : Op) (v : AV) (bef : Nat) : List (Nat × H) → Bool
  | [] => true
  | (i, h) :: rs => bef.testBit i || ((h.nx ≤ rdId e op || readOp e h op == some v) && early e op v bef rs)

def X.tmps : X → List Nat
  | .t n => [n]
  | .c _ => []

def xsT (xs : List X) : List Nat := xs.flatMap X.tmps

def psT (ps : List (Nat × Nat × X)) : List Nat := ps.flatMap fun p => p.2.2.tmps

def oxT : Option X → List Nat
  | none => []
  | some x => x.tmps

/-- The slots that are looked at. -/
def Op.tmps : Op → List Nat
  | .mv x | .nilck x | .un _ x | .conv _ x | .same x | .fld _ x | .getf _ _ _ x | .ext x _ | .len _ x | .cap x | .b2s x | .ld _ _ x | .box _ x | .s2b _ x | .clear _ x => x.tmps
  | .pick c a b => c.tmps ++ (a.tmps ++ b.tmps)
  | .build _ ps | .bslice _ _ _ _ ps => psT ps
  | .bin _ x y | .eqv _ _ x y | .idxa _ x y | .idx _ _ x y | .lookup _ _ _ x y _ | .mkslice _ _ _ x y | .st _ x y | .app _ _ _ x y | .app0 _ _ _ x y | .copy _ x y => x.tmps ++ y.tmps
  | .mkfn _ a b => xsT a ++ xsT b
  | .slc _ x lo hi hm => x.tmps ++ (oxT lo ++ (oxT hi ++ oxT hm))
  | .mx xs | .mn xs => xsT xs
  | .alloc .. | .mkmap => []
  | .mupd _ _ m k v => m.tmps ++ (k.tmps ++ v.tmps)
  | .call _ args => xsT args
  | .callv f args => f.tmps ++ xsT args

def guardT : Option (Nat × Bool) → List Nat
  | none => []
  | some g => [g.1]

def Or.names (o : Or) : List Nat := o.dst.toList ++ (o.op.tmps ++ guardT o.guard)

/-- One operation: its value, and the heap behind it. -/
def step1 (cl : FuncId → List AV → H → Option (AV × H)) (e : Env) (h : H) (op : Op) : Option (Option AV × H) :=
  match op.cls with
  | .pure => match pureOp e op with
    | some v => some (some v, h)
    | none => none
  | .read => match readOp e h op with
    | some v => some (some v, h)
    | none => none
  | .make => match makeOp e op with
    | some (ob, f) => some (some (f h.nx), h.new ob)
    | none => none
  | .act => actOp cl e h op

def runOps (cl : FuncId → List AV → H → Option (AV × H)) : List Or → Env → H → Option (Env × H)
  | [], e, h => some (e, h)
  | o :: os, e, h => match wants e o.guard with
    | some true => match step1 cl e h o.op with
      | some (v, h') => runOps cl os (setD e o.dst v) h'
      | none => none
    | some false => runOps cl os (setD e o.dst (some (.tup []))) h
    | none => none

/-- The same, where the order is open: each read is asked again. -/
def runOpsD (cl : FuncId → List AV → H → Option (AV × H)) : List Or → Nat → List Rd → List (Nat × H) → Env → H → Option (Env × H)
  | [], _, _, _, e, h => some (e, h)
  | o :: os, i, rds, past, e, h => match wants e o.guard with
    | some true => match step1 cl e h o.op with
      | some (v, h') => match o.op.cls, v with
        | .read, some u => if rdId e o.op < h.nx ∧ early e o.op u o.bef past = true then runOpsD cl os (i + 1) (⟨e, o.op, u, i⟩ :: rds) past (setD e o.dst v) h' else none
        | .act, _ => if reread h' o.bef rds then runOpsD cl os (i + 1) rds ((i, h) :: past) (setD e o.dst v) h' else none
        | _, _ => runOpsD cl os (i + 1) rds past (setD e o.dst v) h'
      | none => none
    | some false => runOpsD cl os (i + 1) rds past (setD e o.dst (some (.tup []))) h
    | none => none

def drop (e : Env) : List Nat → Env
  | [] => e
  | n :: ns => drop (e.put n none) ns

def exec (cl : FuncId → List AV → H → Option (AV × H)) : Nat → C → Env → H → Option (Ex × Env × H)
  | 0, _, _, _ => none
  | k + 1, c, e, h => match c with
    | .skip => some (.n, e, h)
    | .reg draw ops ds => match (if draw then runOpsD cl ops 0 [] [] e h else runOps cl ops e h) with
      | some (e, h) => some (.n, drop e ds, h)
      | none => none
    | .seq a b => match exec cl k a e h with
      | some (.n, e, h) => exec cl k b e h
      | r => r
    | .cond c a b => match c.ev e with
      | some (.s (.bool true)) => exec cl k a e h
      | some (.s (.bool false)) => exec cl k b e h
      | _ => none
    | .blk id b => match exec cl k b e h with
      | some (.x i, e, h) => if i = id then some (.n, e, h) else some (.x i, e, h)
      | r => r
    | .loop b => match exec cl k b e h with
      | some (.n, e, h) => exec cl k (.loop b) e h
      | r => r
    | .exit id => some (.x id, e, h)
    | .ret => some (.r, e, h)

def results (h : H) (e : Env) : List RV → Option (List AV)
  | [] => some []
  | .t n :: rs => match e.get n, results h e rs with
    | some v, some vs => some (v :: vs)
    | _, _ => none
  | .cell n agg sz :: rs => match readOp e h (.ld agg sz (.t n)), results h e rs with
    | some v, some vs => some (v :: vs)
    | _, _ => none

def tups : List AV → Option (List (Bool × List SV))
  | [] => some []
  | .s v :: vs => (tups vs).map ((false, [v]) :: ·)
  | .agg cs :: vs => (tups vs).map ((true, cs) :: ·)
  | .tup _ :: _ => none

def tupled : List AV → Option AV
  | [v] => some v
  | vs => (tups vs).map .tup

def setArgs (e : Env) : Nat → List AV → Env
  | _, [] => e
  | i, v :: vs => setArgs (e.put i (some v)) (i + 1) vs

inductive Entry where
  | code (f : Fn)
  | prim (p : List AV → H → Option (AV × H))

def call (tab : FuncId → Option Entry) : Nat → FuncId → List AV → H → Option (AV × H)
  | 0, _, _, _ => none
  | k + 1, f, vs, h => match tab f with
    | some (.prim p) => p vs h
    | some (.code fn) => match exec (call tab k) k fn.body (setArgs (Tr.perf fn.depth) 0 vs) h with
      | some (.n, e, h) | some (.r, e, h) => match (results h e fn.results).bind tupled with
        | some v => some (v, h)
        | none => none
      | _ => none
    | none => none

end Go.AM
