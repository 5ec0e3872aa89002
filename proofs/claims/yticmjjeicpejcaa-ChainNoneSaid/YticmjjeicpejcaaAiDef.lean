/-
  The abstract interpreter: values without memory (immutable lists, structs, closures) and mutable objects by number; a compiler from the model's code; an evaluator with fuel. Nothing is proved here.
-/
import Derived.Orders
import Derived.KernelRfl
namespace Go.Ai

/-- How an element lies: cells, and whether it is a struct. -/
structure EK where
  size : Nat
  agg : Bool
deriving DecidableEq

inductive AV where
  | undef
  | bool (b : Bool)
  | int (k : IntKind) (n : Int)
  | str (s : List UInt8)
  | nilptr
  | ptr (id off : Nat)
  | iptr (cs : List AV)
  | empt (isnil : Bool)
  | list (es : List AV)
  | sref (id off len cap : Nat) (e : EK)
  | nilmap
  | mref (id : Nat)
  | imap (ks vs : List AV)
  | nilfunc
  | func (f : FuncId) (caps : List AV)
  | agg (cs : List AV)
  | tup (vs : List AV)
deriving Inhabited

def AV.cells : AV → List AV
  | .agg cs => cs
  | v => [v]

/-- What may lie in a cell (or, a struct, in several). -/
def AV.cellOk : AV → Bool
  | .undef | .tup _ => false
  | _ => true

/-- The cells of several. -/
def flat : List AV → List AV
  | [] => []
  | v :: vs => v.cells ++ flat vs

def pack (e : EK) (cs : List AV) : Option AV :=
  bif e.agg then (bif Nat.beq cs.length e.size then some (.agg cs) else none)
  else match cs with
    | [c] => some c
    | _ => none

def chunk (e : EK) : Nat → List AV → Option (List AV)
  | 0, _ => some []
  | n + 1, cs => (pack e (cs.take e.size)).bind fun x => (chunk e n (cs.drop e.size)).bind fun r => some (x :: r)

mutual
/-- No number of a mutable object in it. -/
def AV.refFree : AV → Bool
  | .ptr _ _ | .sref _ _ _ _ _ | .mref _ => false
  | .iptr cs | .list cs | .func _ cs | .agg cs | .tup cs => refFrees cs
  | .imap ks vs => refFrees ks && refFrees vs
  | _ => true
def refFrees : List AV → Bool
  | [] => true
  | v :: vs => v.refFree && refFrees vs
end

inductive AObj where
  | cells (cs : List AV)
  | map (ks vs : List AV)

abbrev AHeap := Nat → Option AObj
def AHeap.put (H : AHeap) (id : Nat) (o : Option AObj) : AHeap := fun j => bif Nat.beq j id then o else H j

structure AH where
  heap : AHeap
  next : Nat
  lock : Nat

structure AS where
  sl : List AV
  h : AH

def AH.empty : AH := ⟨fun _ => none, 0, 0⟩
def AH.new (h : AH) (o : AObj) : AH := ⟨h.heap.put h.next (some o), h.next + 1, h.lock⟩
/-- A write to an object that may be written. -/
def AH.set (h : AH) (id : Nat) (o : Option AObj) : Option AH :=
  bif Nat.ble h.lock id then some { h with heap := h.heap.put id o } else none
def AH.cells? (h : AH) (id : Nat) : Option (List AV) :=
  match h.heap id with
  | some (.cells cs) => some cs
  | _ => none

/-! ### What a function's end makes of what it made -/
def traverse (f : AV → Option AV) : List AV → Option (List AV)
  | [] => some []
  | v :: vs => (f v).bind fun x => (traverse f vs).bind fun r => some (x :: r)

/-- A value in which each object from 'lo' on is read and becomes immutable. -/
def deep (H : AHeap) (lo : Nat) : Nat → AV → Option AV
  | 0, _ => none
  | n + 1, v =>
    bif v.refFree then some v else
    match v with
    | .sref id off len _ e =>
      bif Nat.ble lo id then
        match H id with
        | some (.cells cs) =>
          bif Nat.beq ((cs.drop off).take (len * e.size)).length (len * e.size) && (e.agg || Nat.beq e.size 1) then
            (traverse (deep H lo n) ((cs.drop off).take (len * e.size))).bind fun cs' => (chunk e len cs').bind fun es => some (.list es)
          else none
        | _ => none
      else some v
    | .ptr id off =>
      bif Nat.ble lo id then
        match H id with
        | some (.cells cs) => (traverse (deep H lo n) (cs.drop off)).bind fun cs' => some (.iptr cs')
        | _ => none
      else some v
    | .mref id =>
      bif Nat.ble lo id then
        match H id with
        | some (.map ks vs) => (traverse (deep H lo n) ks).bind fun ks' => (traverse (deep H lo n) vs).bind fun vs' => some (.imap ks' vs')
        | _ => none
      else some v
    | .iptr cs => (traverse (deep H lo n) cs).bind fun cs' => some (.iptr cs')
    | .list cs => (traverse (deep H lo n) cs).bind fun cs' => some (.list cs')
    | .func f cs => (traverse (deep H lo n) cs).bind fun cs' => some (.func f cs')
    | .agg cs => (traverse (deep H lo n) cs).bind fun cs' => some (.agg cs')
    | .tup cs => (traverse (deep H lo n) cs).bind fun cs' => some (.tup cs')
    | _ => none
def depth : Nat := 64

/-! ### Operations -/
inductive Arg where
  | s (i : Nat)
  | c (v : AV)

def Arg.val (sl : List AV) : Arg → AV
  | .s i => sl.getD i .undef
  | .c v => v

/-- What '==' looks at, beside numbers and strings. -/
inductive EqK where
  | bool | ptr | slice | map | func | other
deriving DecidableEq

/-- The kinds of fields that are compared. -/
inductive SK where
  | bool | int | str
deriving DecidableEq

inductive Cls where
  | S | M | W
deriving DecidableEq

inductive AOp where
  | mov (x : Arg)
  | pick (c a b : Arg)
  | not (x : Arg)
  | bin (op : BinOp) (k : EqK) (x y : Arg)
  | eqs (neq : Bool) (ks : List SK) (x y : Arg)
  | conv (k : IntKind) (x : Arg)
  | same (x : Arg)
  | nilchk (x : Arg)
  | build (zero : List AV) (parts : List (Nat × Nat × Arg))
  | field (off : Nat) (e : EK) (x : Arg)
  | fieldAddr (off : Nat) (x : Arg)
  | indexAddr (size : Nat) (x i : Arg)
  | index (x i : Arg)
  | slice (size : Nat) (x : Arg) (lo hi mx : Option Arg)
  | substr (x : Arg) (lo hi : Option Arg)
  | extract (x : Arg) (i : Nat)
  | mkfunc (f : FuncId) (caps : List Arg)
  | len (k : EqK) (x : Arg)
  | minmax (max : Bool) (xs : List Arg)
  | load (e : EK) (x : Arg)
  | store (size : Nat) (x v : Arg)
  | box (frozen : Bool) (v : Arg)
  | bslice (e : EK) (len : Nat) (zero : List AV) (parts : List (Nat × Nat × Arg))
  | mkslice (e : EK) (bytes : Nat) (zero : List AV) (len cap : Arg)
  | mkmap
  | lookup (kk : SK) (zero : AV) (ok : Bool) (x k : Arg)
  | mapupd (kk : SK) (x k v : Arg)
  | append (e : EK) (bytes : Nat) (x y : Arg)
  | copy (e : EK) (x y : Arg)
  | clear (e : EK) (zero : List AV) (x : Arg)
  | delete (kk : SK) (x k : Arg)
  | call (cl : Cls) (f : FuncId) (args : List Arg)
  | callv (cl : Cls) (f : Arg) (args : List Arg)

def AOp.cls : AOp → Cls
  | .mov _ | .pick .. | .not _ | .bin .. | .eqs .. | .conv .. | .same _ | .nilchk _ | .build .. | .field .. | .fieldAddr .. | .indexAddr .. | .index ..
  | .slice .. | .substr .. | .extract .. | .mkfunc .. | .minmax .. => .S
  | .len .. | .load .. | .box .. | .bslice .. | .mkslice .. | .mkmap | .lookup .. => .M
  | .store .. | .mapupd .. | .append .. | .copy .. | .clear .. | .delete .. => .W
  | .call cl _ _ | .callv cl _ _ => cl

def Arg.reads : Arg → List Nat
  | .s i => [i]
  | .c _ => []
def oreads : Option Arg → List Nat
  | none => []
  | some x => x.reads
def AOp.reads : AOp → List Nat
  | .mov x | .not x | .conv _ x | .same x | .nilchk x | .field _ _ x | .fieldAddr _ x | .extract x _ | .len _ x | .load _ x | .box _ x | .clear _ _ x => x.reads
  | .pick c a b => c.reads ++ a.reads ++ b.reads
  | .bin _ _ x y | .eqs _ _ x y | .indexAddr _ x y | .index x y | .store _ x y | .mkslice _ _ _ x y | .lookup _ _ _ x y | .append _ _ x y | .copy _ x y | .delete _ x y => x.reads ++ y.reads
  | .build _ ps | .bslice _ _ _ ps => ps.flatMap fun p => p.2.2.reads
  | .slice _ x lo hi mx => x.reads ++ oreads lo ++ oreads hi ++ oreads mx
  | .substr x lo hi => x.reads ++ oreads lo ++ oreads hi
  | .mkfunc _ cs => cs.flatMap Arg.reads
  | .minmax _ xs => xs.flatMap Arg.reads
  | .mkmap => []
  | .mapupd _ x k v => x.reads ++ k.reads ++ v.reads
  | .call _ _ as => as.flatMap Arg.reads
  | .callv _ f as => f.reads ++ as.flatMap Arg.reads

inductive AC where
  | skip
  | ops (l : List (Option Nat × Option (Nat × Bool) × AOp))
  | opsAny (l : List (Option Nat × Option (Nat × Bool) × AOp)) (pairs : List (Nat × Nat))
  | seq (a b : AC)
  | cond (c : Arg) (t e : AC)
  | block (id : Nat) (c : AC)
  | loop (c : AC)
  | exit (id : Nat)
  | ret

inductive Mode where
  | pure | own | full
deriving DecidableEq

inductive ARes where
  | slot (i : Nat)
  | cell (i : Nat) (e : EK)

structure AFn where
  mode : Mode
  ntmps : Nat
  results : List ARes
  body : AC

inductive ADef where
  | fn (f : AFn)
  | prim (f : (Cls → FuncId → List AV → AH → Option (AV × AH)) → Cls → List AV → AH → Option (AV × AH))

abbrev Ctx := FuncId → Option ADef

/-! ### The evaluation of operations -/
def intBin (op : BinOp) (k : IntKind) (a b : Int) : Option AV :=
  match op with
  | .add => some (.int k (k.wrap (a + b)))
  | .sub => some (.int k (k.wrap (a - b)))
  | .mul => some (.int k (k.wrap (a * b)))
  | .quo => if b = 0 then none else some (.int k (k.wrap (a.tdiv b)))
  | .rem => if b = 0 then none else some (.int k (a.tmod b))
  | .eql => some (.bool (a == b))
  | .neq => some (.bool (a != b))
  | .lss => some (.bool (decide (a < b)))
  | .leq => some (.bool (decide (a ≤ b)))
  | .gtr => some (.bool (decide (a > b)))
  | .geq => some (.bool (decide (a ≥ b)))
  | _ => none

def strBin (op : BinOp) (a b : List UInt8) : Option AV :=
  match op with
  | .add => bif Nat.ble (a.length + b.length) 4611686018427387904 then some (.str (a ++ b)) else none
  | .eql => some (.bool (a == b))
  | .neq => some (.bool !(a == b))
  | .lss => some (.bool (Op.bytesLess a b))
  | .leq => some (.bool (Op.bytesLess a b || a == b))
  | .gtr => some (.bool !(Op.bytesLess a b || a == b))
  | .geq => some (.bool !(Op.bytesLess a b))
  | _ => none

def eqV (k : EqK) (x y : AV) : Option Bool :=
  match k, x, y with
  | .bool, .bool a, .bool b => some (a == b)
  | .ptr, .nilptr, .nilptr => some true
  | .ptr, .nilptr, .ptr _ _ | .ptr, .nilptr, .iptr _ | .ptr, .ptr _ _, .nilptr | .ptr, .iptr _, .nilptr => some false
  | .slice, .empt true, .empt true => some true
  | .slice, .empt true, .list (_ :: _) | .slice, .list (_ :: _), .empt true => some false
  | .slice, .empt true, .sref _ _ _ _ _ | .slice, .sref _ _ _ _ _, .empt true => some false
  | .map, .nilmap, .nilmap => some true
  | .map, .nilmap, .mref _ | .map, .nilmap, .imap _ _ | .map, .mref _, .nilmap | .map, .imap _ _, .nilmap => some false
  | .func, .nilfunc, .nilfunc => some true
  | .func, .nilfunc, .func _ _ | .func, .func _ _, .nilfunc => some false
  | _, _, _ => none

def binV (op : BinOp) (k : EqK) (x y : AV) : Option AV :=
  match x, y with
  | .int k a, .int k' b => if k = k' then intBin op k a b else none
  | .str a, .str b => strBin op a b
  | _, _ => match op with
    | .eql => (eqV k x y).map .bool
    | .neq => (eqV k x y).map fun b => .bool !b
    | _ => none

def scalarEq : AV → AV → Option Bool
  | .int k a, .int k' b => if k = k' then some (a == b) else none
  | .str a, .str b => some (a == b)
  | .bool a, .bool b => some (a == b)
  | _, _ => none
/-- Structs of such, field by field. -/
def fieldEq : SK → AV → AV → Option Bool
  | .int, .int k a, .int k' b => if k = k' then some (a == b) else none
  | .str, .str a, .str b => some (a == b)
  | .bool, .bool a, .bool b => some (a == b)
  | _, _, _ => none
def cellsEq : List SK → List AV → List AV → Option Bool
  | [], [], [] => some true
  | k :: ks, x :: xs, y :: ys => match fieldEq k x y with
    | some true => cellsEq ks xs ys
    | some false => some false
    | none => none
  | _, _, _ => none

def fillA (cells : List AV) : List (Nat × Nat × AV) → Option (List AV)
  | [] => some cells
  | (off, size, v) :: rest =>
    bif v.cellOk && Nat.beq v.cells.length size && Nat.ble (off + size) cells.length then fillA (cells.take off ++ v.cells ++ cells.drop (off + size)) rest else none

def idx (l : List AV) (i : Int) : Option AV := if 0 ≤ i then l[i.toNat]? else none

/-- A bound of a slice expression. -/
def bound (most : Nat) : AV → Option Nat
  | .int _ i => if 0 ≤ i ∧ i ≤ most then some i.toNat else none
  | _ => none

def obound (most dflt : Nat) : Option AV → Option Nat
  | some v => bound most v
  | none => some dflt

def sliceV (size : Nat) (x : AV) (lo hi mx : Option AV) : Option AV :=
  match x with
  | .list es => match mx with
    | some _ => none
    | none =>
      (obound es.length es.length hi).bind fun h =>
      (obound h 0 lo).bind fun l => match (es.take h).drop l with
        | [] => some (.list [])
        | v :: r => bif v.cellOk && Nat.beq v.cells.length size then some (.list (v :: r)) else none
  | .empt b =>
      bif mx.isSome && !hi.isSome then none else
      (obound 0 0 mx).bind fun _ =>
      (obound 0 0 hi).bind fun _ =>
      (obound 0 0 lo).bind fun _ => some (.empt b)
  | .sref id off len cap e =>
      bif Nat.beq e.size size then
      match mx with
      | some v =>
        (bound cap v).bind fun m =>
        (hi.bind (bound m)).bind fun h =>
        (obound h 0 lo).bind fun l =>
          bif Nat.beq m l then some (.empt false) else some (.sref id (off + l * size) (h - l) (m - l) e)
      | none =>
        (obound cap len hi).bind fun h =>
        (obound h 0 lo).bind fun l =>
          bif Nat.beq cap l then some (.list []) else some (.sref id (off + l * size) (h - l) (cap - l) e)
      else none
  | _ => none

def substrV (x : AV) (lo hi : Option AV) : Option AV :=
  match x with
  | .str s => (obound s.length s.length hi).bind fun h => (obound h 0 lo).bind fun l => some (.str ((s.take h).drop l))
  | _ => none

def keyEq : AV → AV → Option Bool := scalarEq
def findKeyA (k : AV) : List AV → Nat → Option (Option Nat)
  | [], _ => some none
  | x :: xs, i => match keyEq k x with
    | some true => some (some i)
    | some false => findKeyA k xs (i + 1)
    | none => none
def keyIs : SK → AV → Bool
  | .int, .int _ _ | .str, .str _ | .bool, .bool _ => true
  | _, _ => false

def minmaxV (max : Bool) (k : IntKind) : Int → List AV → Option Int
  | a, [] => some a
  | a, .int k' b :: r => if k = k' then minmaxV max k (bif max then (if a < b then b else a) else (if b < a then b else a)) r else none
  | _, _ => none

/-- The first n elements' cells of what is appended or copied. -/
def source (h : AH) (e : EK) (n : Nat) : AV → Option (List AV)
  | .empt _ => bif Nat.beq n 0 then some [] else none
  | .list es => bif Nat.ble n es.length && (es.take n).all AV.cellOk && Nat.beq (flat (es.take n)).length (n * e.size) then some (flat (es.take n)) else none
  | .sref id off len _ e' =>
    bif Nat.beq e'.size e.size && Nat.ble n len then
      (h.cells? id).bind fun cs => bif Nat.beq ((cs.drop off).take (n * e.size)).length (n * e.size) then some ((cs.drop off).take (n * e.size)) else none
    else none
  | _ => none
def lenV : AV → Option Nat
  | .empt _ => some 0
  | .list es => some es.length
  | .sref _ _ len _ _ => some len
  | _ => none

def splice (cs : List AV) (off : Nat) (new : List AV) : Option (List AV) :=
  bif Nat.ble (off + new.length) cs.length then some (cs.take off ++ new ++ cs.drop (off + new.length)) else none

/-- How many elements are let in: far below what no memory bears. -/
def roomy (bytes n : Nat) : Bool := Nat.ble ((bytes + 1) * n) 70368744177664

def appendV (h : AH) (e : EK) (bytes : Nat) (x y : AV) : Option (AV × AH) :=
  (lenV y).bind fun n =>
  bif Nat.beq n 0 then (match x with
    | .empt _ | .list _ | .sref _ _ _ _ _ => some (x, h)
    | _ => none) else
  (source h e n y).bind fun new =>
  match x with
  | .empt _ => bif roomy bytes n then some (.sref h.next 0 n n e, h.new (.cells new)) else none
  | .sref id off len cap e' =>
    bif e'.size == e.size && e'.agg == e.agg then
      (h.cells? id).bind fun cs =>
      bif Nat.ble (len + n) cap then
        (splice cs (off + len * e.size) new).bind fun cs' => (h.set id (some (.cells cs'))).bind fun h' => some (.sref id off (len + n) cap e, h')
      else bif roomy bytes (len + n) && Nat.beq ((cs.drop off).take (len * e.size)).length (len * e.size) then
        (h.set id none).bind fun h' => some (.sref h.next 0 (len + n) (len + n) e, h'.new (.cells ((cs.drop off).take (len * e.size) ++ new)))
      else none
    else none
  | _ => none

def copyV (h : AH) (e : EK) (x y : AV) : Option (AV × AH) :=
  (lenV x).bind fun n => (lenV y).bind fun m =>
  let k := Nat.min m n
  bif Nat.beq k 0 then some (.int .i64 0, h) else
  (source h e k y).bind fun new =>
  match x with
  | .sref id off _ _ e' =>
    bif Nat.beq e'.size e.size then
      (h.cells? id).bind fun cs => (splice cs off new).bind fun cs' => (h.set id (some (.cells cs'))).bind fun h' => some (.int .i64 k, h')
    else none
  | _ => none

def reps (z : List AV) : Nat → List AV
  | 0 => []
  | n + 1 => z ++ reps z n

def clearV (h : AH) (e : EK) (zero : List AV) (x : AV) : Option (AV × AH) :=
  match x with
  | .empt _ => some (.tup [], h)
  | .list [] => some (.tup [], h)
  | .sref id off len _ e' =>
    bif Nat.beq e'.size e.size && Nat.beq zero.length e.size then
      bif Nat.beq len 0 then some (.tup [], h) else
      (h.cells? id).bind fun cs => (splice cs off (reps zero len)).bind fun cs' => (h.set id (some (.cells cs'))).bind fun h' => some (.tup [], h')
    else none
  | _ => none

/-- Of the operations that only look at slots. -/
def pureV (sl : List AV) : AOp → Option AV
  | .mov x | .same x => some (x.val sl)
  | .pick c a b => match c.val sl with
    | .bool t => some (bif t then a.val sl else b.val sl)
    | _ => none
  | .not x => match x.val sl with
    | .bool t => some (.bool !t)
    | _ => none
  | .bin op k x y => binV op k (x.val sl) (y.val sl)
  | .eqs neq ks x y => match x.val sl, y.val sl with
    | .agg a, .agg b => bif Nat.beq a.length ks.length && Nat.beq b.length ks.length then (cellsEq ks a b).map fun t => .bool (bif neq then !t else t) else none
    | _, _ => none
  | .conv k x => match x.val sl with
    | .int _ n => some (.int k (k.wrap n))
    | _ => none
  | .nilchk x => match x.val sl with
    | .ptr id o => some (.ptr id o)
    | .iptr cs => some (.iptr cs)
    | .func f cs => some (.func f cs)
    | _ => none
  | .build zero ps => (fillA zero (ps.map fun p => (p.1, p.2.1, p.2.2.val sl))).map .agg
  | .field off e x => match x.val sl with
    | .agg cs => pack e ((cs.drop off).take e.size)
    | _ => none
  | .fieldAddr off x => match x.val sl with
    | .ptr id o => some (.ptr id (o + off))
    | .iptr cs => some (.iptr (cs.drop off))
    | _ => none
  | .indexAddr size x i => match i.val sl with
    | .int _ n => match x.val sl with
      | .list es => (idx es n).bind fun v => bif v.cellOk && Nat.beq v.cells.length size then some (.iptr v.cells) else none
      | .sref id off len _ e => bif Nat.beq e.size size then (if 0 ≤ n ∧ n < len then some (.ptr id (off + n.toNat * size)) else none) else none
      | _ => none
    | _ => none
  | .index x i => match x.val sl, i.val sl with
    | .str s, .int _ n => if 0 ≤ n then (s[n.toNat]?).map fun b => .int .u8 b.toNat else none
    | _, _ => none
  | .slice size x lo hi mx => sliceV size (x.val sl) (lo.map (·.val sl)) (hi.map (·.val sl)) (mx.map (·.val sl))
  | .substr x lo hi => substrV (x.val sl) (lo.map (·.val sl)) (hi.map (·.val sl))
  | .extract x i => match x.val sl with
    | .tup vs => vs[i]?
    | _ => none
  | .mkfunc f cs => some (.func f (cs.map (·.val sl)))
  | .minmax max xs => match xs.map (fun x => x.val sl) with
    | AV.int k a :: r => (minmaxV max k a r).map (AV.int k)
    | _ => none
  | _ => none

/-- Of the operations without a call that look at memory. -/
def memV (sl : List AV) (h : AH) : AOp → Option (AV × AH)
  | .len k x => match k, x.val sl with
    | .other, .str s => some (.int .i64 s.length, h)
    | .slice, .list es => some (.int .i64 es.length, h)
    | .slice, .empt _ => some (.int .i64 0, h)
    | .slice, .sref _ _ len _ _ => some (.int .i64 len, h)
    | .map, .nilmap => some (.int .i64 0, h)
    | .map, .imap ks _ => some (.int .i64 ks.length, h)
    | .map, .mref id => match h.heap id with
      | some (.map ks _) => some (.int .i64 ks.length, h)
      | _ => none
    | _, _ => none
  | .load e x => match x.val sl with
    | .iptr cs => (pack e (cs.take e.size)).map fun v => (v, h)
    | .ptr id off => (h.cells? id).bind fun cs => (pack e ((cs.drop off).take e.size)).map fun v => (v, h)
    | _ => none
  | .store size x v => match x.val sl with
    | .ptr id off => bif (v.val sl).cellOk && Nat.beq (v.val sl).cells.length size then
        (h.cells? id).bind fun cs => (splice cs off (v.val sl).cells).bind fun cs' => (h.set id (some (.cells cs'))).bind fun h' => some (.undef, h')
      else none
    | _ => none
  | .box frozen v => bif (v.val sl).cellOk then (bif frozen then some (.iptr (v.val sl).cells, h) else some (.ptr h.next 0, h.new (.cells (v.val sl).cells))) else none
  | .bslice e len zero ps =>
    (fillA (reps zero len) (ps.map fun p => (p.1, p.2.1, p.2.2.val sl))).bind fun cs =>
      bif Nat.beq len 0 then some (.empt false, h)
      else bif Nat.beq cs.length (len * e.size) && Nat.beq zero.length e.size then some (.sref h.next 0 len len e, h.new (.cells cs)) else none
  | .mkslice e bytes zero len cap => match len.val sl, cap.val sl with
    | .int .i64 n, .int .i64 c =>
      if 0 ≤ n ∧ n ≤ c then
        bif roomy bytes c.toNat && Nat.beq zero.length e.size then
          bif Nat.beq c.toNat 0 then some (.empt false, h)
          else some (.sref h.next 0 n.toNat c.toNat e, h.new (.cells (reps zero c.toNat)))
        else none
      else none
    | _, _ => none
  | .mkmap => some (.mref h.next, h.new (.map [] []))
  | .lookup kk zero ok x k =>
    let key := k.val sl
    bif keyIs kk key then
    match x.val sl with
    | .nilmap => some (bif ok then .tup [zero, .bool false] else zero, h)
    | .imap ks vs => (findKeyA key ks 0).bind fun r => match r with
      | some i => (vs[i]?).map fun v => (bif ok then .tup [v, .bool true] else v, h)
      | none => some (bif ok then .tup [zero, .bool false] else zero, h)
    | .mref id => match h.heap id with
      | some (.map ks vs) => (findKeyA key ks 0).bind fun r => match r with
        | some i => (vs[i]?).map fun v => (bif ok then .tup [v, .bool true] else v, h)
        | none => some (bif ok then .tup [zero, .bool false] else zero, h)
      | _ => none
    | _ => none
    else none
  | .mapupd kk x k v =>
    let key := k.val sl
    bif keyIs kk key then
    match x.val sl with
    | .mref id => match h.heap id with
      | some (.map ks vs) => (findKeyA key ks 0).bind fun r => match r with
        | some i => (h.set id (some (.map ks (vs.set i (v.val sl))))).bind fun h' => some (.undef, h')
        | none => (h.set id (some (.map (ks ++ [key]) (vs ++ [v.val sl])))).bind fun h' => some (.undef, h')
      | _ => none
    | _ => none
    else none
  | .delete kk x k =>
    let key := k.val sl
    bif keyIs kk key then
    match x.val sl with
    | .mref id => match h.heap id with
      | some (.map ks vs) => (findKeyA key ks 0).bind fun r => match r with
        | some i => (h.set id (some (.map (ks.eraseIdx i) (vs.eraseIdx i)))).bind fun h' => some (.tup [], h')
        | none => (h.set id (some (.map ks vs))).bind fun h' => some (.tup [], h')
      | _ => none
    | _ => none
    else none
  | .append e bytes x y => appendV h e bytes (x.val sl) (y.val sl)
  | .copy e x y => copyV h e (x.val sl) (y.val sl)
  | .clear e zero x => clearV h e zero (x.val sl)
  | _ => none

/-! ### Code -/
inductive AExit where
  | normal
  | exit (id : Nat)
  | ret

abbrev CallFn := Cls → FuncId → List AV → AH → Option (AV × AH)

def evalOp (call : CallFn) (sl : List AV) (h : AH) (o : AOp) : Option (AV × AH) :=
  match o with
  | .call cl f args => call cl f (args.map (·.val sl)) h
  | .callv cl f args => match f.val sl with
    | .func g caps => call cl g (args.map (·.val sl) ++ caps) h
    | _ => none
  | o => match o.cls with
    | .S => (pureV sl o).map fun v => (v, h)
    | _ => memV sl h o

def putSlot (sl : List AV) : Option Nat → AV → List AV
  | none, _ => sl
  | some d, v => sl.set d v

def guarded (sl : List AV) : Option (Nat × Bool) → Option Bool
  | none => some true
  | some (g, want) => match sl.getD g .undef with
    | .bool b => some (b == want)
    | _ => none

def execOps (call : CallFn) : List (Option Nat × Option (Nat × Bool) × AOp) → AS → Option AS
  | [], st => some st
  | (dst, g, o) :: rest, st =>
    (guarded st.sl g).bind fun t =>
    bif t then (evalOp call st.sl st.h o).bind fun r => execOps call rest ⟨putSlot st.sl dst r.1, r.2⟩
    else execOps call rest ⟨putSlot st.sl dst .undef, st.h⟩

/-- What an operation looks at in memory, and what it may change (none: all that there is); and the numbers of what it has made. -/
structure Foot where
  rd : Option (List Nat)
  wr : Option (List Nat)
  lo : Nat
  hi : Nat

def srefId : AV → List Nat
  | .sref id _ _ _ _ => [id]
  | _ => []

def footOf (sl : List AV) : AOp → Option (List Nat) × Option (List Nat)
  | .load _ x => (match x.val sl with | .ptr id _ => some [id] | .iptr _ => some [] | _ => none, some [])
  | .store _ x _ => match x.val sl with | .ptr id _ => (some [id], some [id]) | _ => (none, none)
  | .append _ _ x y => (some (srefId (x.val sl) ++ srefId (y.val sl)), some (srefId (x.val sl)))
  | .box .. => (some [], some [])
  | .bslice .. => (some [], some [])
  | .call cl _ _ | .callv cl _ _ => (match cl with | .W => (none, none) | _ => (none, some []))
  | o => match o.cls with
    | .S => (some [], some [])
    | .M => (none, some [])
    | .W => (none, none)

def disjF : Option (List Nat) → Option (List Nat) → Bool
  | some ws, some rs => ws.all fun id => !(rs.contains id)
  | some [], none => true
  | _, _ => false

/-- Two operations, in the order of the text, that may be carried out the other way round. -/
def sepF (a b : Foot) : Bool :=
  disjF a.wr b.rd && disjF b.wr a.rd && (match b.wr with | some ws => ws.all fun id => Nat.blt id a.lo || Nat.ble a.hi id | none => false)

def execOpsF (call : CallFn) : List (Option Nat × Option (Nat × Bool) × AOp) → AS → Option (AS × List Foot)
  | [], st => some (st, [])
  | (dst, g, o) :: rest, st =>
    (guarded st.sl g).bind fun t =>
    bif t then (evalOp call st.sl st.h o).bind fun r => (execOpsF call rest ⟨putSlot st.sl dst r.1, r.2⟩).map fun q => (q.1, ⟨(footOf st.sl o).1, (footOf st.sl o).2, st.h.next, r.2.next⟩ :: q.2)
    else (execOpsF call rest ⟨putSlot st.sl dst .undef, st.h⟩).map fun q => (q.1, ⟨some [], some [], st.h.next, st.h.next⟩ :: q.2)

def sepAll (fs : List Foot) (pairs : List (Nat × Nat)) : Bool := pairs.all fun p => match fs[p.1]?, fs[p.2]? with
  | some a, some b => sepF a b
  | _, _ => false

def iter (f : AS → Option (AExit × AS)) : Nat → AS → Option (AExit × AS)
  | 0, _ => none
  | n + 1, st => (f st).bind fun r => match r.1 with
    | .normal => iter f n r.2
    | e => some (e, r.2)

def exec (call : CallFn) (k : Nat) : AC → AS → Option (AExit × AS)
  | .skip, st => some (.normal, st)
  | .ops l, st => (execOps call l st).map fun st' => (.normal, st')
  | .opsAny l pairs, st => (execOpsF call l st).bind fun r => bif sepAll r.2 pairs then some (.normal, r.1) else none
  | .seq a b, st => (exec call k a st).bind fun r => match r.1 with
    | .normal => exec call k b r.2
    | e => some (e, r.2)
  | .cond c t e, st => match c.val st.sl with
    | .bool b => bif b then exec call k t st else exec call k e st
    | _ => none
  | .block id c, st => (exec call k c st).map fun r => match r.1 with
    | .exit id' => (bif Nat.beq id' id then .normal else .exit id', r.2)
    | e => (e, r.2)
  | .loop c, st => iter (exec call k c) k st
  | .exit id, st => some (.exit id, st)
  | .ret, st => some (.ret, st)

def readVar (h : AH) (e : EK) : AV → Option AV
  | .iptr cs => pack e (cs.take e.size)
  | .ptr id off => (h.cells? id).bind fun cs => pack e ((cs.drop off).take e.size)
  | _ => none

def resOf (st : AS) : ARes → Option AV
  | .slot i => some (st.sl.getD i .undef)
  | .cell i e => readVar st.h e (st.sl.getD i .undef)

def results (st : AS) : List ARes → Option AV
  | [] => some (.tup [])
  | [r] => resOf st r
  | rs => (goRes rs).map .tup
where
  goRes : List ARes → Option (List AV)
    | [] => some []
    | r :: rs => (resOf st r).bind fun v => (goRes rs).bind fun vs => some (v :: vs)

/-- A body, run to its end. -/
def runBody (call : CallFn) (k : Nat) (fn : AFn) (args : List AV) (h : AH) : Option (AV × AH) :=
  (exec call k fn.body ⟨args ++ List.replicate (fn.ntmps - args.length) .undef, h⟩).bind fun r => match r.1 with
    | .exit _ => none
    | _ => (results r.2 fn.results).map fun v => (v, r.2.h)

/-- What a slice that the call has made becomes: the caller's own. -/
def adopt (H : AHeap) (lo : Nat) (h : AH) : AV → Option (AV × AH)
  | .sref id off len cap e =>
    bif Nat.ble lo id && Nat.beq ((match H id with | some (.cells cs) => ((cs.drop off).take (cap * e.size)).length | _ => 0)) (cap * e.size) then
      match H id with
      | some (.cells cs) => (traverse (deep (H.put id none) lo depth) ((cs.drop off).take (cap * e.size))).map fun cs' => (.sref h.next 0 len cap e, h.new (.cells cs'))
      | _ => none
    else none
  | .empt b => some (.empt b, h)
  | .tup (.sref id off len cap e :: rest) =>
    bif Nat.ble lo id && Nat.beq ((match H id with | some (.cells cs) => ((cs.drop off).take (cap * e.size)).length | _ => 0)) (cap * e.size) then
      match H id with
      | some (.cells cs) =>
        (traverse (deep (H.put id none) lo depth) ((cs.drop off).take (cap * e.size))).bind fun cs' =>
        (traverse (deep (H.put id none) lo depth) rest).map fun rest' => (.tup (.sref h.next 0 len cap e :: rest'), h.new (.cells cs'))
      | _ => none
    else none
  | .tup (.empt b :: rest) => (traverse (deep H lo depth) rest).map fun rest' => (.tup (.empt b :: rest'), h)
  | v => (deep H lo depth v).map fun v' => (v', h)

def acall (G : Ctx) : Nat → CallFn
  | 0, _, _, _, _ => none
  | k + 1, cl, f, args, h =>
    match G f with
    | none => none
    | some (.prim g) => g (acall G k) cl args h
    | some (.fn fn) =>
      match cl, fn.mode with
      | .W, .full => runBody (acall G k) k fn args h
      | _, m =>
        let start : AH := bif refFrees args then AH.empty else ⟨h.heap, h.next, h.next⟩
        (runBody (acall G k) k fn args start).bind fun r =>
          let h0 : AH := bif refFrees args then h else ⟨h.heap, r.2.next, h.lock⟩
          match m with
          | .own => adopt r.2.heap start.next h0 r.1
          | _ => (deep r.2.heap start.next depth r.1).map fun v => (v, h0)

/-! ### The compiler -/
def scalarOf : Value → Option AV
  | .bool b => some (.bool b)
  | .int k n => some (.int k n)
  | .string s => some (.str s.data.toList)
  | .pointer none => some .nilptr
  | .slice none 0 0 => some (.empt true)
  | .map none => some .nilmap
  | .nilFunc => some .nilfunc
  | _ => none
def scalarsOf : List Value → Option (List AV)
  | [] => some []
  | v :: vs => (scalarOf v).bind fun x => (scalarsOf vs).bind fun r => some (x :: r)
def constOf : Value → Option AV
  | .agg cs => (scalarsOf cs.toList).map .agg
  | v => scalarOf v

def compArg : Operand → Option Arg
  | .tmp t => some (.s t)
  | .const v => (constOf v).map .c
  | .func f => some (.c (.func f []))
  | .global _ => none
def compArgs : List Operand → Option (List Arg)
  | [] => some []
  | x :: xs => (compArg x).bind fun a => (compArgs xs).bind fun r => some (a :: r)
def compOpt : Option Operand → Option (Option Arg)
  | none => some none
  | some x => (compArg x).map some

def isAggD : TypeDesc → Bool
  | .struct _ | .array _ _ => true
  | _ => false
/-- How a variable of a type lies. -/
def ekOf (P : Program) (t : TypeId) : Option EK :=
  match P.underlying t, P.info? t with
  | some d, some i => bif isAggD d then (bif Nat.ble 1 i.size then some ⟨i.size, true⟩ else none) else (bif Nat.beq i.size 1 then some ⟨1, false⟩ else none)
  | _, _ => none
def zeroOf (P : Program) (t : TypeId) : Option AV :=
  match P.info? t with
  | some i => i.zero.bind constOf
  | none => none
def bytesOf (P : Program) (t : TypeId) : Option Nat := (P.info? t).map (·.bytes)

def eqKOf (P : Program) (t : TypeId) : EqK :=
  match P.underlying t with
  | some .bool => .bool
  | some (.pointer _) => .ptr
  | some (.slice _) => .slice
  | some (.map _ _) => .map
  | some (.func _ _ _) => .func
  | _ => .other

/-- A struct of numbers, bools and strings, one cell a field, none of them blank. -/
def fieldKinds (P : Program) : List Field → Nat → Option (List SK)
  | [], _ => some []
  | f :: r, n => bif Nat.beq f.offset n && !(f.name == "_") then
      (match P.underlying f.type with
      | some (.int _) => some SK.int
      | some .bool => some SK.bool
      | some .string => some SK.str
      | _ => none).bind fun k => (fieldKinds P r (n + 1)).bind fun ks => some (k :: ks)
    else none

def compParts (P : Program) (place : Nat → Option (Nat × Nat)) : List (Nat × Operand) → Option (List (Nat × Nat × Arg))
  | [] => some []
  | (i, x) :: r => (place i).bind fun p => (compArg x).bind fun a => (compParts P place r).bind fun r' => some ((p.1, p.2, a) :: r')

def fieldPlaces (P : Program) : List Field → Option (List (Nat × Nat))
  | [] => some []
  | f :: r => (P.info? f.type).bind fun i => (fieldPlaces P r).bind fun r' => some ((f.offset, i.size) :: r')

/-- What is said ahead of a function: the class of each call, and which boxes are never written. -/
structure Hints where
  cls : FuncId → Cls
  callv : Nat → Cls
  frozen : Nat → Bool

def notS : Cls → Bool
  | .S => false
  | _ => true

def keyKind (P : Program) (t : TypeId) : Option SK :=
  match P.underlying t with
  | some (.int _) => some .int
  | some .string => some .str
  | some .bool => some .bool
  | _ => none

def sliceElem (P : Program) (t : TypeId) : Option TypeId :=
  match P.underlying t with
  | some (.slice e) => some e
  | _ => none
def hasLen (P : Program) (t : TypeId) : Bool :=
  match P.underlying t with
  | some .string | some (.slice _) | some (.map _ _) => true
  | _ => false
def mapKey (P : Program) (t : TypeId) : Option TypeId :=
  match P.underlying t with
  | some (.map k _) => some k
  | _ => none
def isInt (P : Program) (t : TypeId) : Bool :=
  match P.underlying t with
  | some (.int _) => true
  | _ => false
def compLen (P : Program) : List Operand → List TypeId → Option AOp
  | [x], [t] => bif hasLen P t then (compArg x).map (.len (eqKOf P t)) else none
  | _, _ => none
def compAppend (P : Program) : List Operand → List TypeId → Option AOp
  | [x, y], [t, u] => (sliceElem P t).bind fun e => (sliceElem P u).bind fun _ => (ekOf P e).bind fun k => (bytesOf P e).bind fun b => (zeroOf P e).bind fun z =>
      bif Nat.beq z.cells.length k.size then (compArg x).bind fun a => (compArg y).bind fun d => some (.append k b a d) else none
  | _, _ => none
def compCopy (P : Program) : List Operand → List TypeId → Option AOp
  | [x, y], [t, u] => (sliceElem P t).bind fun e => (sliceElem P u).bind fun _ => (ekOf P e).bind fun k => (compArg x).bind fun a => (compArg y).bind fun d => some (.copy k a d)
  | _, _ => none
def compClear (P : Program) : List Operand → List TypeId → Option AOp
  | [x], [t] => (sliceElem P t).bind fun e => (ekOf P e).bind fun k => (zeroOf P e).bind fun z => (compArg x).bind fun a => some (.clear k z.cells a)
  | _, _ => none
def compDelete (P : Program) : List Operand → List TypeId → Option AOp
  | [x, k], [t, _] => (mapKey P t).bind fun kt => (keyKind P kt).bind fun kk => (compArg x).bind fun a => (compArg k).bind fun b => some (.delete kk a b)
  | _, _ => none
def compBuiltin (P : Program) (rt : TypeId) (b : Builtin) (xs : List Operand) (ts : List TypeId) : Option AOp :=
  match b with
  | .len => compLen P xs ts
  | .append => compAppend P xs ts
  | .copy => compCopy P xs ts
  | .clear => compClear P xs ts
  | .delete => compDelete P xs ts
  | .max => bif isInt P rt then (compArgs xs).map (.minmax true) else none
  | .min => bif isInt P rt then (compArgs xs).map (.minmax false) else none
  | _ => none

def compOp (P : Program) (hint : Hints) (o : Oper) : Option AOp :=
  match o.op with
  | .move x | .assign x => (compArg x).map .mov
  | .pick c a b => (compArg c).bind fun c => (compArg a).bind fun a => (compArg b).bind fun b => some (.pick c a b)
  | .alloc t => (zeroOf P t).bind fun z => (ekOf P t).bind fun _ => some (.box false (.c z))
  | .box t x => (ekOf P t).bind fun _ => (compArg x).bind fun a => some (.box ((o.dst.map hint.frozen).getD false) a)
  | .build t parts =>
    match P.underlying t with
    | some (.struct fs) => (zeroOf P t).bind fun z => (fieldPlaces P fs.toList).bind fun pl => (compParts P (fun i => pl[i]?) parts.toList).bind fun ps => some (.build z.cells ps)
    | _ => none
  | .buildSlice t len parts =>
    match P.underlying t with
    | some (.slice e) => (ekOf P e).bind fun k => (zeroOf P e).bind fun z =>
      bif Nat.ble (len * k.size) 16777216 && Nat.beq z.cells.length k.size then
        (compParts P (fun i => some (i * k.size, k.size)) parts.toList).bind fun ps => some (.bslice k len z.cells ps) else none
    | _ => none
  | .load t x => (ekOf P t).bind fun k => (compArg x).bind fun a => some (.load k a)
  | .store t x v => (ekOf P t).bind fun k => (compArg x).bind fun a => (compArg v).bind fun b => some (.store k.size a b)
  | .nilCheck x => (compArg x).map .nilchk
  | .binOp op t x y _ =>
    match P.underlying t with
    | some (.struct fs) => bif !(P.eqGuardType P.depth t) && !(P.stoodInHeld t) then
        (fieldKinds P fs.toList 0).bind fun ks => (compArg x).bind fun a => (compArg y).bind fun b => (match op with | .eql => some (.eqs false ks a b) | .neq => some (.eqs true ks a b) | _ => none) else none
    | some _ => (compArg x).bind fun a => (compArg y).bind fun b => some (.bin op (eqKOf P t) a b)
    | none => none
  | .unOp op _ x => match op with
    | .not => (compArg x).map .not
    | _ => none
  | .convert src dst x =>
    match P.underlying src, P.underlying dst with
    | some (.int _), some (.int k) => (compArg x).map (.conv k)
    | _, _ => none
  | .makeFunc (.func f) first captured => bif first.isEmpty then (compArgs captured.toList).map (.mkfunc f) else none
  | .makeMap t none => match P.underlying t with
    | some (.map _ _) => some .mkmap
    | _ => none
  | .makeSlice t l c =>
    match P.underlying t with
    | some (.slice e) => (ekOf P e).bind fun k => (zeroOf P e).bind fun z => (bytesOf P e).bind fun b =>
      (compArg l).bind fun x => (compArg c).bind fun y => some (.mkslice k b z.cells x y)
    | _ => none
  | .slice t x lo hi mx =>
    match P.underlying t with
    | some .string => (compArg x).bind fun a => (compOpt lo).bind fun l => (compOpt hi).bind fun h => (match mx with | none => some (.substr a l h) | _ => none)
    | some (.slice e) => (ekOf P e).bind fun k => (compArg x).bind fun a => (compOpt lo).bind fun l => (compOpt hi).bind fun h => (compOpt mx).bind fun m => some (.slice k.size a l h m)
    | _ => none
  | .fieldAddr s x f =>
    match P.underlying s with
    | some (.struct fs) => (fs[f]?).bind fun fl => (P.info? fl.type).bind fun i => bif Nat.ble 1 i.size then (compArg x).map (.fieldAddr fl.offset) else none
    | _ => none
  | .field s x f =>
    match P.underlying s with
    | some (.struct fs) => (fs[f]?).bind fun fl => (ekOf P fl.type).bind fun k => (compArg x).map (.field fl.offset k)
    | _ => none
  | .indexAddr t x i =>
    match P.underlying t with
    | some (.slice e) => (ekOf P e).bind fun k => (compArg x).bind fun a => (compArg i).bind fun b => some (.indexAddr k.size a b)
    | _ => none
  | .index t x i =>
    match P.underlying t with
    | some .string => (compArg x).bind fun a => (compArg i).bind fun b => some (.index a b)
    | _ => none
  | .lookup t x k ok =>
    match P.underlying t with
    | some (.map kt e) => (keyKind P kt).bind fun kk => (zeroOf P e).bind fun z => (compArg x).bind fun a => (compArg k).bind fun b => some (.lookup kk z ok a b)
    | _ => none
  | .mapUpdate t m k v | .insert t m k v =>
    match P.underlying t with
    | some (.map kt _) => (keyKind P kt).bind fun kk => (compArg m).bind fun a => (compArg k).bind fun b => (compArg v).bind fun c => some (.mapupd kk a b c)
    | _ => none
  | .extract x i => (compArg x).map (.extract · i)
  | .call c =>
    match c.callee with
    | .builtin b =>
      compBuiltin P o.type b c.args.toList c.argTypes.toList
    | .value (.func f) => (match P.funcs[f]? with
      | some fn => bif fn.body.isSome && !(fn.name == "runtime.NumGoroutine") && notS (hint.cls f) then (compArgs c.args.toList).map (.call (hint.cls f) f) else none
      | none => none)
    | .value x => bif notS ((o.dst.map hint.callv).getD .W) then (compArg x).bind fun a => (compArgs c.args.toList).map (.callv ((o.dst.map hint.callv).getD .W) a) else none
    | _ => none
  | _ => none

def compOper (P : Program) (hint : Hints) (ops : Array Oper) (o : Oper) : Option (Option Nat × Option (Nat × Bool) × AOp) :=
  (match o.guard with
    | none => some none
    | some (j, want) => ((ops[j]?).bind (·.dst)).map fun d => some (d, want)).bind fun g =>
  (compOp P hint o).map fun a => (o.dst, g, a)

def compOpers (P : Program) (hint : Hints) (ops : Array Oper) : List Oper → Option (List (Option Nat × Option (Nat × Bool) × AOp))
  | [] => some []
  | o :: r => (compOper P hint ops o).bind fun a => (compOpers P hint ops r).bind fun r' => some (a :: r')

/-! ### Orders that are left open -/
/-- Which come ahead of each, by edges (over others), as a list of places. -/
def predsOf : List Oper → List (List Nat) → List (List Nat)
  | [], acc => acc
  | o :: r, acc =>
    let own := o.after.toList.flatMap fun e => bif Region.binds .any e then e.on :: acc.getD e.on [] else []
    predsOf r (acc ++ [own.eraseDups])

def clsOk : Cls → Cls → Bool
  | .S, _ | _, .S => true
  | .M, .M => true
  | _, _ => false

/-- The slots that an operation looks at. -/
def rd (x : Option Nat × Option (Nat × Bool) × AOp) : List Nat := x.2.2.reads ++ (match x.2.1 with | some (g, _) => [g] | none => [])

def apartS (x y : Option Nat × Option (Nat × Bool) × AOp) : Bool :=
  (match x.1 with | some d => !((rd y).contains d) && !(y.1 == some d) | none => true) && (match y.1 with | some d => !((rd x).contains d) | none => true)
def apartA (x y : Option Nat × Option (Nat × Bool) × AOp) : Bool := apartS x y && clsOk x.2.2.cls y.2.2.cls

/-- The pairs that no edge orders, of which one may change memory that the other looks at. -/
def clash (l : List (Option Nat × Option (Nat × Bool) × AOp)) (preds : List (List Nat)) : List (Nat × Nat) :=
  (List.range l.length).flatMap fun j => (List.range j).filterMap fun i =>
    bif (preds.getD j []).contains i then none else match l[i]?, l[j]? with
      | some x, some y => bif clsOk x.2.2.cls y.2.2.cls then none else some (i, j)
      | _, _ => none

/-- Each two that no edge orders are apart. -/
def orderOk (l : List (Option Nat × Option (Nat × Bool) × AOp)) (preds : List (List Nat)) : Bool :=
  (List.range l.length).all fun j => (preds.getD j []).all (fun i => Nat.blt i j) && (List.range j).all fun i =>
    (preds.getD j []).contains i || (match l[i]?, l[j]? with
      | some x, some y => apartA x y
      | _, _ => false)

/-- Each two that no edge orders are apart as slots go; and, but for some pairs, by their class. -/
def orderS (l : List (Option Nat × Option (Nat × Bool) × AOp)) (preds : List (List Nat)) (pairs : List (Nat × Nat)) : Bool :=
  (List.range l.length).all fun j => (preds.getD j []).all (fun i => Nat.blt i j) && (List.range j).all fun i =>
    (preds.getD j []).contains i || (match l[i]?, l[j]? with
      | some x, some y => apartS x y && (clsOk x.2.2.cls y.2.2.cls || pairs.any fun p => Nat.beq p.1 i && Nat.beq p.2 j)
      | _, _ => false)

def compCode (P : Program) (hint : Hints) : Code → Option AC
  | .skip => some .skip
  | .region _ ops draw => (compOpers P hint ops ops.toList).bind fun l =>
    bif draw then (bif orderOk l (predsOf ops.toList []) then some (.ops l) else
      (bif orderS l (predsOf ops.toList []) (clash l (predsOf ops.toList [])) then some (.opsAny l (clash l (predsOf ops.toList []))) else none)) else some (.ops l)
  | .seq a b => (compCode P hint a).bind fun x => (compCode P hint b).bind fun y => some (.seq x y)
  | .cond c t e => (compArg c).bind fun a => (compCode P hint t).bind fun x => (compCode P hint e).bind fun y => some (.cond a x y)
  | .block id c => (compCode P hint c).map (.block id)
  | .loop c => (compCode P hint c).map .loop
  | .exit id => some (.exit id)
  | .ret => some .ret
  | _ => none

def compRes (P : Program) : List ResultVar → Option (List ARes)
  | [] => some []
  | .tmp t :: r => (compRes P r).map (.slot t :: ·)
  | .cell t ty :: r => (ekOf P ty).bind fun k => (compRes P r).map (.cell t k :: ·)

def comp (P : Program) (hint : Hints) (mode : Mode) (f : Func) : Option AFn :=
  f.body.bind fun c => (compCode P hint c).bind fun b => (compRes P f.results.toList).map fun rs => ⟨mode, f.ntmps, rs, b⟩

end Go.Ai
