/- A shallow reading of the machine's code: programs as functions, slots as variables. -/
import Derived.Test.YtfniiaghlkacaaaGreatAm21
namespace Go.AM.G
open Go Go.AM

abbrev R := Option (AV × H)
abbrev Kt := Env → H → R
abbrev Cl := FuncId → List AV → H → Option (AV × H)

/-- Code with the slots that live on behind a join, or around a loop. -/
inductive D where
  | skip
  | reg (draw : Bool) (ops : List Or) (drops : List Nat)
  | seq (a b : D)
  | cond (j : Option (List Nat)) (c : X) (a b : D)
  | blk (j : Option (List Nat)) (id : Nat) (b : D)
  | loop (l : List Nat) (b : D)
  | exit (id : Nat)
  | ret
  deriving Repr, Inhabited

def er : D → C
  | .skip => .skip
  | .reg d o r => .reg d o r
  | .seq a b => .seq (er a) (er b)
  | .cond _ c a b => .cond c (er a) (er b)
  | .blk _ id b => .blk id (er b)
  | .loop _ b => .loop (er b)
  | .exit id => .exit id
  | .ret => .ret

def dsts : List Or → List Nat
  | [] => []
  | o :: os => o.dst.toList ++ dsts os

/-- The slots that code may change. -/
def mods : C → List Nat
  | .skip | .exit _ | .ret => []
  | .reg _ ops ds => dsts ops ++ ds
  | .seq a b | .cond _ a b => mods a ++ mods b
  | .blk _ b | .loop b => mods b

noncomputable section

abbrev ob {α β : Type} (o : Option α) (f : α → Option β) : Option β := F.ob o f

def obh {β : Type} (o : Option (AV × H)) (f : AV → H → Option β) : Option β := F.ob o fun r => f r.1 r.2

def subX (e : Env) : X → Option X
  | .t n => F.ob (F.get e n) fun v => some (.c v)
  | .c v => some (.c v)

def subXs (e : Env) : List X → Option (List X)
  | [] => some []
  | x :: xs => F.ob (subX e x) fun x => F.ob (subXs e xs) fun xs => some (x :: xs)

def subPs (e : Env) : List (Nat × Nat × X) → Option (List (Nat × Nat × X))
  | [] => some []
  | (a, b, x) :: xs => F.ob (subX e x) fun x => F.ob (subPs e xs) fun xs => some ((a, b, x) :: xs)

def subO (e : Env) : Option X → Option (Option X)
  | none => some none
  | some x => F.ob (subX e x) fun x => some (some x)

/-- An operation with the values of its slots. -/
def sub (e : Env) : Op → Option Op
  | .mv x => F.ob (subX e x) fun x => some (.mv x)
  | .pick c a b => F.ob (subX e c) fun c => F.ob (subX e a) fun a => F.ob (subX e b) fun b => some (.pick c a b)
  | .build z ps => F.ob (subPs e ps) fun ps => some (.build z ps)
  | .nilck x => F.ob (subX e x) fun x => some (.nilck x)
  | .bin op x y => F.ob (subX e x) fun x => F.ob (subX e y) fun y => some (.bin op x y)
  | .eqv q n x y => F.ob (subX e x) fun x => F.ob (subX e y) fun y => some (.eqv q n x y)
  | .un op x => F.ob (subX e x) fun x => some (.un op x)
  | .conv k x => F.ob (subX e x) fun x => some (.conv k x)
  | .same x => F.ob (subX e x) fun x => some (.same x)
  | .mkfn f a b => F.ob (subXs e a) fun a => F.ob (subXs e b) fun b => some (.mkfn f a b)
  | .slc sh x lo hi mx => F.ob (subX e x) fun x => F.ob (subO e lo) fun lo => F.ob (subO e hi) fun hi => F.ob (subO e mx) fun mx => some (.slc sh x lo hi mx)
  | .fld off x => F.ob (subX e x) fun x => some (.fld off x)
  | .getf a o n x => F.ob (subX e x) fun x => some (.getf a o n x)
  | .idxa sh x i => F.ob (subX e x) fun x => F.ob (subX e i) fun i => some (.idxa sh x i)
  | .idx sh a x i => F.ob (subX e x) fun x => F.ob (subX e i) fun i => some (.idx sh a x i)
  | .ext x i => F.ob (subX e x) fun x => some (.ext x i)
  | .len sh x => F.ob (subX e x) fun x => some (.len sh x)
  | .cap x => F.ob (subX e x) fun x => some (.cap x)
  | .mx xs => F.ob (subXs e xs) fun xs => some (.mx xs)
  | .mn xs => F.ob (subXs e xs) fun xs => some (.mn xs)
  | .ld a n x => F.ob (subX e x) fun x => some (.ld a n x)
  | .lookup g ks z m k ok => F.ob (subX e m) fun m => F.ob (subX e k) fun k => some (.lookup g ks z m k ok)
  | .b2s x => F.ob (subX e x) fun x => some (.b2s x)
  | .alloc t z => some (.alloc t z)
  | .box t x => F.ob (subX e x) fun x => some (.box t x)
  | .bslice t sz len z ps => F.ob (subPs e ps) fun ps => some (.bslice t sz len z ps)
  | .mkslice t z b l c => F.ob (subX e l) fun l => F.ob (subX e c) fun c => some (.mkslice t z b l c)
  | .mkmap => some .mkmap
  | .s2b t x => F.ob (subX e x) fun x => some (.s2b t x)
  | .st n a v => F.ob (subX e a) fun a => F.ob (subX e v) fun v => some (.st n a v)
  | .mupd g ks m k v => F.ob (subX e m) fun m => F.ob (subX e k) fun k => F.ob (subX e v) fun v => some (.mupd g ks m k v)
  | .app t sz b s x => F.ob (subX e s) fun s => F.ob (subX e x) fun x => some (.app t sz b s x)
  | .app0 t z b s x => F.ob (subX e s) fun s => F.ob (subX e x) fun x => some (.app0 t z b s x)
  | .copy sz d s => F.ob (subX e d) fun d => F.ob (subX e s) fun s => some (.copy sz d s)
  | .clear z s => F.ob (subX e s) fun s => some (.clear z s)
  | .call f args => F.ob (subXs e args) fun args => some (.call f args)
  | .callv f args => F.ob (subX e f) fun f => F.ob (subXs e args) fun args => some (.callv f args)

/-! ### operations of values -/

def nilck (v : AV) : Option AV := F.onPtr v fun i o => some (F.pt i o)
def fld (off : Nat) (v : AV) : Option AV := F.onPtr v fun i o => some (F.pt i (Nat.add o off))
def conv (k : IntKind) (v : AV) : Option AV := F.onInt v fun _ n => some (.s (.int k (k.wrap n)))
def ld (agg : Bool) (n : Nat) (v : AV) (h : H) : Option AV := F.onPtr v fun i o => F.ld agg n h i o
def idxa (sh : Sh) (v i : AV) : Option AV := F.onInt i fun _ n => match sh with
  | .arr l sz => F.onPtr v fun b o => F.ifb (and (not (F.ltI n 0)) (F.ltI n l)) (some (F.pt b (Nat.add o (Nat.mul n.toNat sz)))) none
  | .sl sz => match v with
    | .s (.sl (some (b, o)) len _ _ z) => F.ifb (and (Nat.beq z sz) (and (not (F.ltI n 0)) (F.ltI n len))) (some (F.pt b (Nat.add o (Nat.mul n.toNat sz)))) none
    | _ => none
  | .str => none
def pv (op : Op) : Option AV := pureOp .nil op
def rv (op : Op) (h : H) : Option AV := readOp .nil h op
def mkv (op : Op) (h : H) : Option (AV × H) := F.ob (makeOp .nil op) fun r => some (r.2 h.nx, F.hnew h r.1)
def av (op : Op) (h : H) : Option (AV × H) := match actOp (fun _ _ _ => none) .nil h op with
  | some (some v, h) => some (v, h)
  | _ => none
def avn (op : Op) (h : H) : Option H := match actOp (fun _ _ _ => none) .nil h op with
  | some (none, h) => some h
  | _ => none
def st (n : Nat) (a v : AV) (h : H) : Option H := F.ob (AV.cs v) fun vs => F.onPtr a fun i o => F.ob (F.st n h i o vs) fun r => some r.2
def vals : List X → Option (List AV)
  | [] => some []
  | .c v :: l => F.ob (vals l) fun vs => some (v :: vs)
  | _ => none
def callv (cl : Cl) (f : AV) (vs : List AV) (h : H) : Option (AV × H) := match f with
  | .s (.fn f first caps) => cl f (first.map ofAddr ++ vs ++ caps.map ofAddr) h
  | _ => none

/-- Of an operation with values: its value, where it changes no memory. -/
def val (op : Op) (h : H) : Option AV := match op with
  | .mv (.c v) => some v
  | .bin o (.c a) (.c b) => F.bin o a b
  | .fld off (.c a) => fld off a
  | .nilck (.c a) => nilck a
  | .conv k (.c a) => conv k a
  | .idxa sh (.c a) (.c i) => idxa sh a i
  | .ld a n (.c x) => ld a n x h
  | .lookup .. | .b2s .. => rv op h
  | op => pv op

inductive Sort3 where
  | v | a | n | k
  deriving DecidableEq

/-- What an operation gives: a value; a value and a heap; a heap. -/
def sort : Op → Sort3
  | .alloc .. | .box .. | .bslice .. | .mkslice .. | .mkmap | .s2b .. => .k
  | .app .. | .app0 .. | .copy .. | .call .. | .callv .. => .a
  | .st .. | .mupd .. | .clear .. => .n
  | _ => .v

def act (cl : Cl) (op : Op) (h : H) : Option (AV × H) := match op with
  | .call f args => F.ob (vals args) fun vs => cl f vs h
  | .callv (.c f) args => F.ob (vals args) fun vs => callv cl f vs h
  | op => av op h

def actn (op : Op) (h : H) : Option H := match op with
  | .st n (.c a) (.c v) => st n a v h
  | op => avn op h

/-- A guard: what is done, or nothing. -/
def gd {α : Type} (c : AV) (b : Bool) (x y : Option α) : Option α := match c with
  | .s (.bool t) => F.ifb (Bool.rec (motive := fun _ => Bool) (not b) b t) x y
  | .tup _ => y
  | _ => none

def nought : AV := .tup []

def gdo {α : Type} (g : Option (AV × Bool)) (x y : Option α) : Option α := match g with
  | none => x
  | some (c, b) => gd c b x y

def gv (e : Env) (g : Option (Nat × Bool)) : Option (Option (AV × Bool)) := match g with
  | none => some none
  | some (n, b) => F.ob (F.get e n) fun c => some (some (c, b))

/-- The operations of a region in the text's order. -/
def runG (cl : Cl) : List Or → Env → H → (Env → H → R) → R
  | [], e, h, k => k e h
  | o :: os, e, h, k => F.ob (sub e o.op) fun op => F.ob (gv e o.guard) fun g => match sort op with
    | .v => F.ob (gdo g (val op h) (some nought)) fun v => runG cl os (F.setD e o.dst (some v)) h k
    | .k => obh (gdo g (mkv op h) (some (nought, h))) fun v h => runG cl os (F.setD e o.dst (some v)) h k
    | .a => obh (gdo g (act cl op h) (some (nought, h))) fun v h => runG cl os (F.setD e o.dst (some v)) h k
    | .n => F.ob (gdo g (actn op h) (some h)) fun h => runG cl os (F.setD e o.dst none) h k

/-- A read that was done. -/
structure Rg where
  g : Option (AV × Bool)
  op : Op
  v : AV
  i : Nat

def same (x : Option AV) (v : AV) : Bool := match x, v with
  | some (.s (.int k a)), .s (.int k' b) => and (F.kq k k') (F.eqI a b)
  | some (.s (.ptr (some (i, o)))), .s (.ptr (some (j, q))) => and (Nat.beq i j) (Nat.beq o q)
  | some a, b => a == b
  | none, _ => false

def gdb (g : Option (AV × Bool)) (x : Bool) : Bool := match g with
  | none => x
  | some (.s (.bool t), b) => Bool.rec (motive := fun _ => Bool) true x (Bool.rec (motive := fun _ => Bool) (not b) b t)
  | some (.tup _, _) => true
  | _ => false

def again (h : H) : List Rg → Bool
  | [] => true
  | r :: rs => and (gdb r.g (same (val r.op h) r.v)) (again h rs)

def rid : Op → Nat
  | .ld _ _ (.c v) => (match v with
    | .s (.ptr (some (i, _))) => i
    | _ => 0)
  | op => rdId .nil op

def ahead (op : Op) (v : AV) : List (Nat × H) → Bool
  | [] => true
  | (_, h) :: hs => and (or (Nat.ble h.nx (rid op)) (same (val op h) v)) (ahead op v hs)

/-- A read where the order is open. -/
def rdd (op : Op) (past : List (Nat × H)) (h : H) : Option AV := F.ob (val op h) fun v => F.ifb (and (Nat.blt (rid op) h.nx) (ahead op v past)) (some v) none

def chk {α : Type} (f : α → H) (rds : List Rg) (o : Option α) : Option α := match rds with
  | [] => o
  | r :: rs => F.ob o fun x => F.ifb (again (f x) (r :: rs)) (some x) none

def nb (bef i : Nat) : Bool := not (Nat.testBit bef i)

def isRd (op : Op) : Bool := match op.cls with
  | .read => true
  | _ => false

/-- The same, where the order is open. -/
def runGD (cl : Cl) : List Or → Nat → List Rg → List (Nat × H) → Env → H → (Env → H → R) → R
  | [], _, _, _, e, h, k => k e h
  | o :: os, i, rds, past, e, h, k => F.ob (sub e o.op) fun op => F.ob (gv e o.guard) fun g => match sort op with
    | .v => match isRd op with
      | true => F.ob (gdo g (rdd op (past.filter fun p => nb o.bef p.1) h) (some nought)) fun v => runGD cl os (i + 1) (⟨g, op, v, i⟩ :: rds) past (F.setD e o.dst (some v)) h k
      | false => F.ob (gdo g (val op h) (some nought)) fun v => runGD cl os (i + 1) rds past (F.setD e o.dst (some v)) h k
    | .k => obh (gdo g (mkv op h) (some (nought, h))) fun v h => runGD cl os (i + 1) rds past (F.setD e o.dst (some v)) h k
    | .a => obh (gdo g (chk Prod.snd (rds.filter fun r => nb o.bef r.i) (act cl op h)) (some (nought, h))) fun v h' => runGD cl os (i + 1) rds ((i, h) :: past) (F.setD e o.dst (some v)) h' k
    | .n => F.ob (gdo g (chk id (rds.filter fun r => nb o.bef r.i) (actn op h)) (some h)) fun h' => runGD cl os (i + 1) rds ((i, h) :: past) (F.setD e o.dst none) h' k

/-! ### control -/

/-- What a join hands on. -/
def Tup : List Nat → Type
  | [] => Unit
  | [_] => AV
  | _ :: n :: l => AV × Tup (n :: l)

def projK {β : Type} (e : Env) : (L : List Nat) → (Tup L → Option β) → Option β
  | [], k => k ()
  | [n], k => F.ob (F.get e n) fun v => k v
  | n :: m :: l, k => F.ob (F.get e n) fun v => projK e (m :: l) fun p => k (v, p)

def puts (e : Env) : (L : List Nat) → Tup L → Env
  | [], _ => e
  | [n], v => F.put e n (some v)
  | n :: m :: l, p => puts (F.put e n (some p.1)) (m :: l) p.2

def dropF (e : Env) : List Nat → Env
  | [] => e
  | n :: ns => dropF (F.put e n none) ns

def cnd {β : Type} (c : AV) (x y : Option β) : Option β := match c with
  | .s (.bool t) => F.ifb t x y
  | _ => none

def letJ {σ : Type} (j : σ → H → R) (f : (σ → H → R) → R) : R := f j

def fixN {σ : Type} (f : (σ → H → R) → σ → H → R) (n : Nat) : σ → H → R := Nat.rec (motive := fun _ => σ → H → R) (fun _ _ => none) (fun _ ih => f ih) n

def fuel : Nat := 1000000

abbrev Fx := (σ : Type) → ((σ → H → R) → σ → H → R) → σ → H → R

def fix (σ : Type) (f : (σ → H → R) → σ → H → R) (p : σ) (h : H) : R := fixN f fuel p h

def look (id : Nat) : List (Nat × Kt) → Kt
  | [] => fun _ _ => none
  | (i, k) :: l => F.ifb (Nat.beq i id) k (look id l)

def den (fx : Fx) (cl : Cl) : D → Env → H → Kt → List (Nat × Kt) → Kt → R
  | .skip, e, h, κ, _, _ => κ e h
  | .reg d ops ds, e, h, κ, _, _ => match d with
    | false => runG cl ops e h fun e h => κ (dropF e ds) h
    | true => runGD cl ops 0 [] [] e h fun e h => κ (dropF e ds) h
  | .seq a b, e, h, κ, xs, r => den fx cl a e h (fun e h => den fx cl b e h κ xs r) xs r
  | .cond J c a b, e, h, κ, xs, r => match J with
    | none => F.ob (F.ev c e) fun v => cnd v (den fx cl a e h κ xs r) (den fx cl b e h κ xs r)
    | some L => letJ (fun (p : Tup L) h => κ (puts (dropF e (mods (er a) ++ mods (er b))) L p) h) fun j => F.ob (F.ev c e) fun v => cnd v (den fx cl a e h (fun e h => projK e L fun p => j p h) xs r) (den fx cl b e h (fun e h => projK e L fun p => j p h) xs r)
  | .blk J id b, e, h, κ, xs, r => match J with
    | none => den fx cl b e h κ ((id, κ) :: xs) r
    | some L => letJ (fun (p : Tup L) h => κ (puts (dropF e (mods (er b))) L p) h) fun j => den fx cl b e h (fun e h => projK e L fun p => j p h) ((id, fun e h => projK e L fun p => j p h) :: xs) r
  | .loop L b, e, h, _, xs, r => projK e L fun p => fx (Tup L) (fun (rec : Tup L → H → R) p h => den fx cl b (puts (dropF e (mods (er b))) L p) h (fun e h => projK e L fun p => rec p h) xs r) p h
  | .exit id, e, h, _, xs, _ => look id xs e h
  | .ret, e, h, _, _, r => r e h

def resG (e : Env) (h : H) : List RV → (List AV → R) → R
  | [], k => k []
  | .t n :: rs, k => F.ob (F.get e n) fun v => resG e h rs fun vs => k (v :: vs)
  | .cell n a sz :: rs, k => F.ob (F.get e n) fun p => F.ob (ld a sz p h) fun v => resG e h rs fun vs => k (v :: vs)

def out (vs : List AV) (h : H) : R := match vs with
  | [v] => some (v, h)
  | vs => F.ob (tupled vs) fun v => some (v, h)

/-- A function, read. -/
structure Df where
  depth : Nat
  results : List RV
  body : D

def Df.fn (f : Df) : Fn := ⟨f.depth, f.results, er f.body⟩

def denF (fx : Fx) (cl : Cl) (f : Df) (vs : List AV) (h : H) : R :=
  den fx cl f.body (F.setArgs (Tr.perf f.depth) 0 vs) h (fun e h => resG e h f.results fun vs => out vs h) [] (fun e h => resG e h f.results fun vs => out vs h)

end
end Go.AM.G
