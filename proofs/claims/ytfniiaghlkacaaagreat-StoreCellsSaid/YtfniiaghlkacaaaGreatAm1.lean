/- From the model's code to the abstract machine's. -/
import Derived.CheckFast
import Derived.Test.YtfniiaghlkacaaaGreatAm0
import GoSem.Dispatch
namespace Go.AM

def ofCell : Value → Option SV
  | .int k n => some (.int k n)
  | .bool b => some (.bool b)
  | .string s => some (.str s.data.toList)
  | .pointer none => some (.ptr none)
  | .slice none 0 0 => some (.sl none 0 0 true 1)
  | .map none => some (.map none)
  | .nilFunc => some .nilfn
  | _ => none

def ofCells : List Value → Option (List SV)
  | [] => some []
  | v :: vs => match ofCell v, ofCells vs with
    | some a, some b => some (a :: b)
    | _, _ => none

def ofVal : Value → Option AV
  | .agg cs => (ofCells cs.toList).map .agg
  | v => (ofCell v).map .s

def isNeq : BinOp → Bool
  | .neq => true
  | _ => false

def cX : Operand → Option X
  | .tmp t => some (.t t)
  | .const v => (ofVal v).map .c
  | .func f => some (.c (.s (.fn f [] [])))
  | .global _ => none

def cXs : List Operand → Option (List X)
  | [] => some []
  | x :: xs => match cX x, cXs xs with
    | some a, some b => some (a :: b)
    | _, _ => none

def cXo : Option Operand → Option (Option X)
  | none => some none
  | some x => (cX x).map some

variable (P : Program)

def size? (t : TypeId) : Option Nat := (P.info? t).map (·.size)
def zero? (t : TypeId) : Option (List SV) := ((P.info? t).bind (·.zero)).bind fun z => ofCells z.cells.toList
def zeroS? (t : TypeId) : Option SV := ((P.info? t).bind (·.zero)).bind ofCell
def agg? (t : TypeId) : Option Bool := (P.underlying t).map fun
  | .struct _ | .array _ _ => true
  | _ => false

def cParts (place : Nat → Option (Nat × Nat)) : List (Nat × Operand) → Option (List (Nat × Nat × X))
  | [] => some []
  | (i, x) :: ps => match place i, cX x, cParts place ps with
    | some (off, n), some a, some b => some ((off, n, a) :: b)
    | _, _, _ => none

/-- Fields that lie one behind the other. -/
def runs : Nat → List Field → Option Nat
  | off, [] => some off
  | off, f :: r => if f.offset = off then runs (off + P.cellsOf f.type) r else none

def kindsOf (rec : TypeId → Option (List K)) : List Field → Option (List K)
  | [] => some []
  | f :: fs => if f.name = "_" then none else match rec f.type, kindsOf rec fs with
    | some a, some b => some (a ++ b)
    | _, _ => none

/-- What the cells of a type's values hold: of numbers, truth values and strings, one behind the other. -/
def kinds : Nat → TypeId → Option (List K)
  | 0, _ => none
  | d + 1, t => if (P.info? t).isSome then match P.underlying t with
    | some .bool => if P.cellsOf t = 1 then some [.b] else none
    | some (.int _) => if P.cellsOf t = 1 then some [.i] else none
    | some .string => if P.cellsOf t = 1 then some [.s] else none
    | some (.struct fs) => if P.stoodInHeld t = false ∧ runs P 0 fs.toList = some (P.cellsOf t) then kindsOf (kinds d) fs.toList else none
    | some (.array n e) => if P.cellsOf t = n * P.cellsOf e then (kinds d e).map fun ks => (List.replicate n ks).flatten else none
    | _ => none
    else none

/-- A type of one number, truth value, string. -/
def scalar (t : TypeId) : Bool :=
  size? P t == some 1 && match P.underlying t with
    | some .bool | some (.int _) | some .string => true
    | _ => false

/-- A key's type: such a one, or a struct of such. -/
def keyOk (t : TypeId) : Bool :=
  scalar P t || match P.underlying t with
    | some (.struct fs) => fs.toList.all fun f => scalar P f.type
    | _ => false

def cBuiltin (b : Builtin) (ts : List TypeId) (xs : List Operand) : Option Op :=
  match b, ts, xs with
  | .append, [t, u], [s, x] =>
    match P.underlying t, P.underlying u, cX s, cX x with
    | some (.slice e), some (.int _), some s, some x => match zero? P e, P.info? e with
      | some z, some i => if z.length = i.size then some (.app0 e z i.bytes s x) else none
      | _, _ => none
    | some (.slice e), some _, some s, some x => match zero? P e, P.info? e with
      | some z, some i => if z.length = i.size then some (.app e i.size i.bytes s x) else none
      | _, _ => none
    | _, _, _, _ => none
  | .len, [t], [x] => match P.underlying t, cX x with
    | some (.array n _), some x => some (.len (.arr n 0) x)
    | some .string, some x => some (.len .str x)
    | some (.slice _), some x => some (.len (.sl 0) x)
    | _, _ => none
  | .cap, [t], [x] => match P.underlying t, cX x with
    | some (.array n _), some x => some (.len (.arr n 0) x)
    | some (.slice _), some x => some (.cap x)
    | _, _ => none
  | .copy, [t, _], [d, s] => match P.underlying t, cX d, cX s with
    | some (.slice e), some d, some s => (size? P e).map fun n => .copy n d s
    | _, _, _ => none
  | .clear, [t], [s] => match P.underlying t, cX s with
    | some (.slice e), some s => match zero? P e, size? P e with
      | some z, some n => if z.length = n then some (.clear z s) else none
      | _, _ => none
    | _, _ => none
  | .max, _, xs => (cXs xs).map .mx
  | .min, _, xs => (cXs xs).map .mn
  | _, _, _ => none

def cEq (op : BinOp) (t : TypeId) (d : TypeDesc) (x y : X) : Option Op :=
  match d with
  | .pointer _ => some (.eqv .ptr (isNeq op) x y)
  | .slice _ => some (.eqv .sl (isNeq op) x y)
  | .map _ _ => some (.eqv .map (isNeq op) x y)
  | .func _ _ _ => some (.eqv .fn (isNeq op) x y)
  | .bool => if P.cellsOf t = 1 ∧ (P.info? t).isSome then some (.eqv (.k false [.b]) (isNeq op) x y) else none
  | .struct _ | .array _ _ => match kinds P 12 t with
    | some ks => if P.eqGuardType P.depth t = false then some (.eqv (.k true ks) (isNeq op) x y) else none
    | none => none
  | _ => none

def cOp : Go.Op → Option Op
  | .move x | .assign x => (cX x).map .mv
  | .pick c a b => match cX c, cX a, cX b with
    | some c, some a, some b => some (.pick c a b)
    | _, _, _ => none
  | .alloc t => match zero? P t with
    | some z => some (.alloc t z)
    | none => none
  | .box t x => (cX x).map (.box t)
  | .build t ps => match zero? P t, P.underlying t with
    | some z, some (.struct fs) => if fs.toList.all (fun f => (P.info? f.type).isSome) then (cParts (fun i => (fs[i]?).map fun f => (f.offset, P.cellsOf f.type)) ps.toList).map (.build z) else none
    | some z, some (.array _ e) => match size? P e with
      | some n => (cParts (fun i => some (i * n, n)) ps.toList).map (.build z)
      | none => none
    | _, _ => none
  | .buildSlice t len ps => match P.underlying t with
    | some (.slice e) => match size? P e, zero? P e with
      | some n, some z => if len * n ≤ 16777216 ∧ z.length = n then (cParts (fun i => some (i * n, n)) ps.toList).map (.bslice e n len (rep len z)) else none
      | _, _ => none
    | _ => none
  | .load t a => match size? P t, agg? P t, cX a with
    | some n, some g, some a => if g || n == 1 then some (.ld g n a) else none
    | _, _, _ => none
  | .store t a v => match size? P t, cX a, cX v with
    | some n, some a, some v => some (.st n a v)
    | _, _, _ => none
  | .nilCheck x => (cX x).map .nilck
  | .binOp op t x y _ => match P.underlying t, cX x, cX y with
    | some (.int _), some x, some y | some .string, some x, some y => some (.bin op x y)
    | some d, some x, some y => match op with
      | .eql | .neq => cEq P op t d x y
      | _ => none
    | _, _, _ => none
  | .unOp op _ x => (cX x).map (.un op)
  | .convert s d x => match P.underlying s, P.underlying d, cX x with
    | some (.int _), some (.int k), some x => some (.conv k x)
    | some .string, some .string, some x => some (.same x)
    | some .string, some (.slice e), some x => if P.underlying e matches some (.int .u8) then some (.s2b e x) else none
    | some (.slice e), some .string, some x => if P.underlying e matches some (.int .u8) then some (.b2s x) else none
    | _, _, _ => none
  | .makeFunc (.func f) first caps => match cXs first.toList, cXs caps.toList with
    | some a, some b => some (.mkfn f a b)
    | _, _ => none
  | .makeMap _ none => some .mkmap
  | .makeSlice t l c => match P.underlying t with
    | some (.slice e) => match zero? P e, P.info? e, cX l, cX c with
      | some z, some i, some l, some c => if z.length = i.size ∧ i.size ≠ 0 then some (.mkslice e z i.bytes l c) else none
      | _, _, _, _ => none
    | _ => none
  | .slice t x lo hi mx => match P.underlying t, cX x, cXo lo, cXo hi, cXo mx with
    | some .string, some x, some lo, some hi, some mx => some (.slc .str x lo hi mx)
    | some (.slice e), some x, some lo, some hi, some mx => (size? P e).map fun n => .slc (.sl n) x lo hi mx
    | some (.array k e), some x, some lo, some hi, some mx => (size? P e).map fun n => .slc (.arr k n) x lo hi mx
    | _, _, _, _, _ => none
  | .fieldAddr s x f => match P.underlying s, cX x with
    | some (.struct fs), some x => match fs[f]? with
      | some fd => if size? P fd.type = some 0 ∨ size? P fd.type = none then none else some (.fld fd.offset x)
      | none => none
    | _, _ => none
  | .field t x f => match P.underlying t, cX x with
    | some (.struct fs), some x => match fs[f]? with
      | some fd => match size? P fd.type, agg? P fd.type with
        | some n, some g => if g || n == 1 then some (.getf g fd.offset n x) else none
        | _, _ => none
      | none => none
    | _, _ => none
  | .indexAddr t x i => match P.underlying t, cX x, cX i with
    | some (.array k e), some x, some i => (size? P e).map fun n => .idxa (.arr k n) x i
    | some (.slice e), some x, some i => (size? P e).map fun n => .idxa (.sl n) x i
    | _, _, _ => none
  | .index t x i => match P.underlying t, cX x, cX i with
    | some .string, some x, some i => some (.idx .str false x i)
    | some (.array k e), some x, some i => match size? P e, agg? P e with
      | some n, some g => if g || n == 1 then some (.idx (.arr k n) g x i) else none
      | _, _ => none
    | _, _, _ => none
  | .lookup t m k ok => match P.underlying t, cX m, cX k with
    | some (.map kt e), some m, some k => match zeroS? P e with
      | some z => match kinds P 12 kt with
        | some ks => match agg? P e, agg? P kt with
          | some false, some g => if keyOk P kt && size? P e == some 1 then some (.lookup g ks z m k ok) else none
          | _, _ => none
        | none => none
      | none => none
    | _, _, _ => none
  | .mapUpdate t m k v => match P.underlying t, cX m, cX k, cX v with
    | some (.map kt e), some m, some k, some v => match kinds P 12 kt with
      | some ks => match agg? P e, agg? P kt with
        | some false, some g => if keyOk P kt then some (.mupd g ks m k v) else none
        | _, _ => none
      | none => none
    | _, _, _, _ => none
  | .extract x i => (cX x).map (.ext · i)
  | .call { callee := .builtin b, args, argTypes } => cBuiltin P b argTypes.toList args.toList
  | .call { callee := .value (.func f), args, .. } => (cXs args.toList).map (.call f)
  | .call { callee := .value x, args, .. } => match cX x, cXs args.toList with
    | some x, some xs => some (.callv x xs)
    | _, _ => none
  | _ => none

/-- An operation that never goes through. -/
def stuckOp : Op := .nilck (.c (.s (.ptr none)))

def cOr (nt : Nat) (ops : Array Oper) (bef : Array Nat) (i : Nat) (o : Oper) : Option Or :=
  if o.dst.any (nt ≤ ·) then none else
  match o.guard with
  | none => some { dst := o.dst, op := (cOp P o.op).getD stuckOp, guard := none, bef := bef.getD i 0 }
  | some (j, b) => match (ops[j]?).bind (·.dst) with
    | some d => some { dst := o.dst, op := (cOp P o.op).getD stuckOp, guard := some (d, b), bef := bef.getD i 0 }
    | none => none

def cOrs (nt : Nat) (ops : Array Oper) (bef : Array Nat) : Nat → List Oper → Option (List Or)
  | _, [] => some []
  | i, o :: os => match cOr P nt ops bef i o, cOrs nt ops bef (i + 1) os with
    | some a, some b => some (a :: b)
    | _, _ => none

/-- Do two operations name a slot that one of them writes, or are both actions? -/
def clash (q o : Or) : Bool :=
  (match q.dst with | some d => o.names.contains d | none => false) || (match o.dst with | some d => q.names.contains d | none => false) || (q.op.cls = .act && o.op.cls = .act)

/-- What is read lies in a slot. -/
def rdT : Op → Bool
  | .ld _ _ (.c _) | .lookup _ _ _ (.c _) _ _ | .b2s (.c _) => false
  | _ => true

/-- Such operations lie one behind the other. -/
def tidy : List Or → Nat → List (Nat × Or) → Bool
  | [], _, _ => true
  | o :: os, i, past => rdT o.op && past.all (fun p => !clash p.2 o || o.bef.testBit p.1) && tidy os (i + 1) ((i, o) :: past)

def pass (md : Region.Mode) : List Oper → Nat → Nat → Nat
  | [], _, d => d
  | o :: os, i, d => pass md os (i + 1) (if o.after.toList.all (fun e => !Region.binds md e || d.testBit e.on) then d ||| 2 ^ i else d)

def passes (md : Region.Mode) (l : List Oper) : Nat → Nat → Nat
  | 0, d => d
  | k + 1, d => let d' := pass md l 0 d; if d' = d then d else passes md l k d'

/-- Is there an order at all? -/
def full (md : Region.Mode) (ops : Array Oper) : Bool :=
  let l := ops.toList
  let d := passes md l l.length 0
  (List.range l.length).all d.testBit

def fulls (ops : Array Oper) : Bool := full .any ops && (!Region.departs ops || (full .text ops && full .gc ops))

def comp (nt : Nat) : Code → Option C
  | .skip => some .skip
  | .region _ ops draw =>
    let bef := if draw then CheckFast.beforeF ops else #[]
    match cOrs P nt ops bef 0 ops.toList with
    | some os => if draw then (if fulls ops && tidy os 0 [] then some (.reg true os []) else none) else some (.reg false os [])
    | none => none
  | .seq a b => match comp nt a, comp nt b with
    | some a, some b => some (.seq a b)
    | _, _ => none
  | .cond c a b => match cX c, comp nt a, comp nt b with
    | some c, some a, some b => some (.cond c a b)
    | _, _, _ => none
  | .block id b => (comp nt b).map (.blk id)
  | .loop b => (comp nt b).map .loop
  | .exit id => some (.exit id)
  | .ret => some .ret
  | _ => none

def strip : C → C
  | .reg d os _ => .reg d os []
  | .seq a b => .seq (strip a) (strip b)
  | .cond c a b => .cond c (strip a) (strip b)
  | .blk id b => .blk id (strip b)
  | .loop b => .loop (strip b)
  | c => c

def cRes : List ResultVar → Option (List RV)
  | [] => some []
  | .tmp t :: rs => (cRes rs).map (.t t :: ·)
  | .cell a t :: rs => match size? P t, agg? P t, cRes rs with
    | some n, some g, some r => if g || n == 1 then some (.cell a g n :: r) else none
    | _, _, _ => none

end Go.AM
