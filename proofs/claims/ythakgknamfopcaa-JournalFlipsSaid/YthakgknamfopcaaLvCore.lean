/- Lv, the logical evaluator: its values, its heap, and one operation at a time. Plain definitions; nothing is claimed here. -/
import Derived.AtR
namespace Go.Lv
open Go
set_option linter.unusedVariables false
set_option linter.unusedSimpArgs false

/-- The capacity of a slice: known, or open: up to the end of its block's room, in steps of so many cells. -/
inductive LCap where
  | ex (c : Nat)
  | op (sz : Nat)
  deriving DecidableEq, Inhabited

inductive LV where
  | bool (b : Bool)
  | int (k : IntKind) (n : Int)
  | str (s : List UInt8)
  | ptr (a : Option (Nat × Nat))
  | slice (a : Option (Nat × Nat)) (len : Nat) (cap : LCap)
  | emp
  | map (r : Option Nat)
  | func (fn : Fn) (first captured : List LV)
  | yield (l : Nat)
  | nilFunc
  | iface (t : Nat) (v : LV)
  | nilIface
  | agg (cs : List LV)
  | tuple (vs : List LV)
  deriving Inhabited

def LV.cells : LV → List LV
  | .agg cs => cs
  | v => [v]

def undefV : LV := .tuple []

/-! ### tables by number -/
inductive Tr (α : Type) where
  | leaf
  | node (v : Option α) (l r : Tr α)
  deriving Inhabited

def Tr.get {α : Type} : Tr α → Nat → Option α
  | .leaf, _ => none
  | .node v l r, k => if k = 0 then v else if k % 2 = 1 then l.get (k / 2) else r.get (k / 2 - 1)

def Tr.val {α : Type} : Tr α → Option α
  | .leaf => none
  | .node v _ _ => v
def Tr.left {α : Type} : Tr α → Tr α
  | .leaf => .leaf
  | .node _ l _ => l
def Tr.right {α : Type} : Tr α → Tr α
  | .leaf => .leaf
  | .node _ _ r => r

def Tr.setF {α : Type} : Nat → Tr α → Nat → Option α → Tr α
  | 0, t, _, _ => t
  | f + 1, t, k, v =>
    if k = 0 then .node v t.left t.right
    else if k % 2 = 1 then .node t.val (Tr.setF f t.left (k / 2) v) t.right
    else .node t.val t.left (Tr.setF f t.right (k / 2 - 1) v)

def Tr.set {α : Type} (t : Tr α) (k : Nat) (v : Option α) : Tr α := Tr.setF (k + 1) t k v

/-! ### the frame's slots -/
structure Env where
  n : Nat
  g : Nat
  t : Tr LV
  deriving Inhabited

def Env.get (E : Env) (k : Nat) : Option LV := E.t.get k
def Env.put (E : Env) (k : Nat) (v : LV) : Env := if k < E.n then { E with t := E.t.set k (some v) } else E
def Env.putO (E : Env) (d : Option Nat) (v : LV) : Env :=
  match d with
  | some k => E.put k v
  | none => E
def Env.putAll : Env → Nat → List LV → Env
  | E, _, [] => E
  | E, i, v :: vs => Env.putAll (E.put i v) (i + 1) vs
def Env.start (P : Program) (n : Nat) (args : List LV) : Env := Env.putAll { n := args.length + (n - args.length), g := P.globals.size, t := .leaf } 0 args

/-! ### the heap -/
inductive LO where
  | cells (cs : List LV) (elem : Nat) (own opn : Bool)
  | map (es : List (LV × LV × Nat)) (clock : Nat)
  | loop (st : LoopState) (pend : Option Code) (fn : Nat) (env : Env) (params : List Nat) (assign body : Code) (defers : Nat)
  | defd (taken : Bool)
  | sit (s : List UInt8) (pos : Nat)
  deriving Inhabited

structure LH where
  next : Nat
  t : Tr LO
  deriving Inhabited

def LH.get (H : LH) (i : Nat) : Option LO := H.t.get i
def LH.put (H : LH) (i : Nat) (o : LO) : LH := { H with t := H.t.set i (some o) }
def LH.del (H : LH) (i : Nat) : LH := { H with t := H.t.set i none }
def LH.new (H : LH) (o : LO) : LH := { next := H.next + 1, t := H.t.set H.next (some o) }

structure LDef where
  fn : Fn
  captured : List LV
  args : List LV
  mark : Option Nat := none
  deriving Inhabited

/-! ### constants -/
def ofV : Nat → Value → Option LV
  | 0, _ => none
  | _ + 1, .bool b => some (.bool b)
  | _ + 1, .int k n => some (.int k n)
  | _ + 1, .string s => some (.str s.data.toList)
  | _ + 1, .pointer none => some (.ptr none)
  | _ + 1, .slice none 0 0 => some (.slice none 0 (.ex 0))
  | _ + 1, .map none => some (.map none)
  | _ + 1, .nilFunc => some .nilFunc
  | _ + 1, .nilIface => some .nilIface
  | n + 1, .iface t v => (ofV n v).map (.iface t)
  | n + 1, .agg cs => (cs.toList.mapM (ofV n)).map .agg
  | n + 1, .tuple cs => (cs.toList.mapM (ofV n)).map .tuple
  | _ + 1, _ => none

def Env.ev (E : Env) : Operand → Option LV
  | .tmp t => E.get t
  | .const v => ofV 4 v
  | .global g => if g < E.g then some (.ptr (some (g, 0))) else none
  | .func f => some (.func (.func f) [] [])

/-! ### types -/
def isAggT (P : Program) (t : Nat) : Option Bool :=
  (P.underlying t).map fun
    | .struct _ | .array _ _ => true
    | _ => false
def sizeT (P : Program) (t : Nat) : Option Nat := (P.info? t).map (·.size)
def bytesT (P : Program) (t : Nat) : Option Nat := (P.info? t).map (·.bytes)
def zeroT (P : Program) (t : Nat) : Option LV := ((P.info? t).bind (·.zero)).bind (ofV 8)
def sliceElem (P : Program) (t : Nat) : Option Nat :=
  match P.underlying t with
  | some (.slice e) => some e
  | _ => none

/-- So many zero values, one behind the other. -/
def zerosL : Nat → List LV → List LV
  | 0, _ => []
  | n + 1, z => z ++ zerosL n z

/-- 'cs' with 'xs' written from place 'i' on. -/
def splice (cs : List LV) (i : Nat) (xs : List LV) : List LV := cs.take i ++ xs ++ cs.drop (i + xs.length)

def fillL (place : Nat → Option (Nat × Nat)) (cells : List LV) : List (Nat × LV) → Option (List LV)
  | [] => some cells
  | (i, v) :: rest =>
    match place i with
    | none => none
    | some (off, size) =>
      if v.cells.length = size ∧ off + size ≤ cells.length then fillL place (splice cells off v.cells) rest else none

def cellsAt (H : LH) (i off n : Nat) : Option (List LV) :=
  match H.get i with
  | some (.cells cs _ _ _) => if off + n ≤ cs.length then some ((cs.drop off).take n) else none
  | _ => none

def loadL (P : Program) (H : LH) (t : Nat) (a : LV) : Option LV :=
  match a with
  | .ptr (some (i, off)) =>
    match isAggT P t, sizeT P t with
    | some true, some n => (cellsAt H i off n).map .agg
    | some false, some _ =>
      match cellsAt H i off 1 with
      | some [v] => some v
      | _ => none
    | _, _ => none
  | _ => none

def storeCellsL (H : LH) (i off : Nat) (xs : List LV) : Option LH :=
  match H.get i with
  | some (.cells cs e true o) => if off + xs.length ≤ cs.length then some (H.put i (.cells (splice cs off xs) e true o)) else none
  | _ => none

def oneCell : LV → Bool
  | .agg _ | .tuple _ => false
  | _ => true

def storeL (P : Program) (H : LH) (t : Nat) (a x : LV) : Option LH :=
  match a with
  | .ptr (some (i, off)) =>
    if sizeT P t = some x.cells.length ∧ x.cells.all oneCell = true then storeCellsL H i off x.cells else none
  | _ => none

def partL (P : Program) (t : Nat) (cs : List LV) (off : Nat) : Option LV :=
  match isAggT P t with
  | some true => (sizeT P t).bind fun n => if off + n ≤ cs.length then some (.agg ((cs.drop off).take n)) else none
  | some false => cs[off]?
  | none => none

/-! ### numbers -/
def lbits (op : BinOp) (k : IntKind) (x y : Int) : Option LV :=
  let a := BitVec.ofInt k.bits x
  let b := BitVec.ofInt k.bits y
  match op with
  | .and => some (.int k (k.wrap (a &&& b).toNat))
  | .or => some (.int k (k.wrap (a ||| b).toNat))
  | .xor => some (.int k (k.wrap (a ^^^ b).toNat))
  | .andNot => some (.int k (k.wrap (a &&& ~~~b).toNat))
  | _ => none

def lcmp (op : BinOp) (x y : Int) : Option LV :=
  match op with
  | .eql => some (.bool (x == y))
  | .neq => some (.bool (x != y))
  | .lss => some (.bool (decide (x < y)))
  | .leq => some (.bool (decide (x ≤ y)))
  | .gtr => some (.bool (decide (x > y)))
  | .geq => some (.bool (decide (x ≥ y)))
  | _ => none

def lint (op : BinOp) (k : IntKind) (x y : Int) : Option LV :=
  match op with
  | .add => some (.int k (k.wrap (x + y)))
  | .sub => some (.int k (k.wrap (x - y)))
  | .mul => some (.int k (k.wrap (x * y)))
  | .quo => if y = 0 then none else some (.int k (k.wrap (x.tdiv y)))
  | .rem => if y = 0 then none else some (.int k (x.tmod y))
  | .and | .or | .xor | .andNot => lbits op k x y
  | .shl | .shr => none
  | _ => lcmp op x y

def lstr (op : BinOp) (x y : List UInt8) : Option LV :=
  match op with
  | .add => if x.length + y.length < 9223372036854775808 then some (.str (x ++ y)) else none
  | .eql => some (.bool (x == y))
  | .neq => some (.bool (!(x == y)))
  | .lss => some (.bool (Op.bytesLess x y))
  | .leq => some (.bool (Op.bytesLess x y || x == y))
  | .gtr => some (.bool (!(Op.bytesLess x y || x == y)))
  | .geq => some (.bool (!Op.bytesLess x y))
  | _ => none

def foldO {α : Type} (f : α → Option Bool) : List α → Option Bool
  | [] => some true
  | x :: xs =>
    match f x with
    | some true => foldO f xs
    | some false => some false
    | none => none

/-- '==' on two values of one type (no two addresses that are not nil). -/
def leq (P : Program) : Nat → Nat → LV → LV → Option Bool
  | 0, _, _, _ => none
  | d + 1, t, x, y =>
    match P.underlying t, x, y with
    | some .bool, .bool a, .bool b => some (a == b)
    | some (.int _), .int k a, .int k' b => if k = k' then some (a == b) else none
    | some .string, .str a, .str b => some (a == b)
    | some (.pointer _), .ptr none, .ptr b => some b.isNone
    | some (.pointer _), .ptr (some _), .ptr none => some false
    | some (.interface _), .nilIface, .nilIface => some true
    | some (.interface _), .nilIface, .iface _ _ => some false
    | some (.interface _), .iface _ _, .nilIface => some false
    | some (.interface _), .iface tx vx, .iface ty vy =>
      if tx ≠ ty then some false
      else match P.info? tx with
        | some i => if i.comparable then leq P d tx vx vy else none
        | none => none
    | some (.struct fs), .agg xs, .agg ys =>
      if P.stoodInHeld t then none
      else foldO (fun f => if f.name ≠ "_" then
          match partL P f.type xs f.offset, partL P f.type ys f.offset with
          | some a, some b => leq P d f.type a b
          | _, _ => none
        else some true) fs.toList
    | some (.array n e), .agg xs, .agg ys =>
      match sizeT P e with
      | some s => foldO (fun i => match partL P e xs (i * s), partL P e ys (i * s) with
          | some a, some b => leq P d e a b
          | _, _ => none) (List.range n)
      | none => none
    | some (.slice _), .slice none _ _, .slice b _ _ => some b.isNone
    | some (.slice _), .slice (some _) _ _, .slice none _ _ => some false
    | some (.slice _), .slice none _ _, .emp => some false
    | some (.slice _), .emp, .slice none _ _ => some false
    | some (.map _ _), .map none, .map b => some b.isNone
    | some (.map _ _), .map (some _), .map none => some false
    | some (.func _ _ _), .nilFunc, .nilFunc => some true
    | some (.func _ _ _), .nilFunc, .func _ _ _ => some false
    | some (.func _ _ _), .func _ _ _, .nilFunc => some false
    | some (.func _ _ _), .yield _, .nilFunc => some false
    | some (.func _ _ _), .nilFunc, .yield _ => some false
    | _, _, _ => none

def isConstO : Operand → Bool
  | .const _ => true
  | _ => false

/-- May the model's own guard on '==' be passed over? -/
def guardOk (P : Program) (t : Nat) (x y : Operand) (a b : LV) : Bool :=
  match a, b with
  | .nilIface, .nilIface => isConstO x || isConstO y
  | .agg _, .agg _ => !P.eqGuardType P.depth t
  | _, _ => true

def lbin (P : Program) (op : BinOp) (t : Nat) (x y : Operand) (a b : LV) : Option LV :=
  match a, b with
  | .int k m, .int k' n =>
    match op with
    | .shl => if n < 0 then none else some (.int k (k.wrap (m * 2 ^ (min n.toNat k.bits))))
    | .shr => if n < 0 then none else some (.int k (m.fdiv (2 ^ (min n.toNat k.bits))))
    | _ => if k = k' then lint op k m n else none
  | .str m, .str n => lstr op m n
  | _, _ =>
    match op with
    | .eql => if guardOk P t x y a b then (leq P 64 t a b).map .bool else none
    | .neq => if guardOk P t x y a b then (leq P 64 t a b).map fun r => .bool (!r) else none
    | _ => none

def lun (op : UnOp) (x : LV) : Option LV :=
  match op, x with
  | .neg, .int k n => some (.int k (k.wrap (0 - n)))
  | .xor, .int k n => lbits .xor k (if k.signed then -1 else k.max) n
  | .not, .bool b => some (.bool (!b))
  | _, _ => none

/-! ### slices -/
def lenL : LV → Option Nat
  | .slice _ n _ => some n
  | .emp => some 0
  | .str s => some s.length
  | _ => none

def lenD : LV → Option Nat
  | .slice _ n _ => some n
  | .emp => some 0
  | _ => none

def bytesL (s : List UInt8) : List LV := s.map fun b => .int .u8 b.toNat

/-- The first n elements' cells of a slice or a string. -/
def firstL (H : LH) (size n : Nat) : LV → Option (List LV)
  | .slice (some (i, off)) _ _ => cellsAt H i off (n * size)
  | .slice none _ _ => if n = 0 then some [] else none
  | .emp => if n = 0 then some [] else none
  | .str s => if n ≤ s.length ∧ size = 1 then some (bytesL (s.take n)) else none
  | _ => none

def natOf (x : LV) : Option Nat :=
  match x with
  | .int _ n => if 0 ≤ n then some n.toNat else none
  | _ => none

def boundO (x : Option LV) (dflt : Nat) : Option Nat :=
  match x with
  | none => some dflt
  | some v => natOf v

/-- How many elements there is room for, as far as it is known. -/
def knownRoom (H : LH) (i off : Nat) : LCap → Option Nat
  | .ex c => some c
  | .op sz =>
    match H.get i with
    | some (.cells cs _ _ _) => if off ≤ cs.length ∧ 0 < sz then some ((cs.length - off) / sz) else none
    | _ => none

def sliceL (P : Program) (H : LH) (t : Nat) (x : LV) (lo hi mx : Option LV) : Option LV :=
  match P.underlying t, x with
  | some .string, .str s =>
    match mx, boundO lo 0, boundO hi s.length with
    | none, some l, some h => if l ≤ h ∧ h ≤ s.length then some (.str ((s.take h).drop l)) else none
    | _, _, _ => none
  | some (.slice e), .slice (some (i, off)) n c =>
    match sizeT P e, boundO lo 0, boundO hi n, knownRoom H i off c with
    | some sz, some l, some h, some room =>
      if ¬ (l ≤ h ∧ h ≤ room) then none else
      match mx with
      | some m =>
        match natOf m, hi with
        | some m, some _ =>
          if h ≤ m ∧ m ≤ room then some (.slice (some (i, if m = l then off else off + l * sz)) (h - l) (.ex (m - l))) else none
        | _, _ => none
      | none =>
        match c with
        | .ex c => some (.slice (some (i, if c = l then off else off + l * sz)) (h - l) (.ex (c - l)))
        | .op s => if s ≠ sz then none else if l < room ∨ l = 0 then some (.slice (some (i, off + l * sz)) (h - l) (.op s)) else some .emp
    | _, _, _, _ => none
  | some (.slice e), .slice none _ _ =>
    match sizeT P e, boundO lo 0, boundO hi 0, boundO mx 0 with
    | some _, some 0, some 0, some 0 => if mx.isSome = true → hi.isSome = true then some (.slice none 0 (.ex 0)) else none
    | _, _, _, _ => none
  | some (.slice e), .emp =>
    match sizeT P e, boundO lo 0, boundO hi 0, mx with
    | some _, some 0, some 0, none => some .emp
    | _, _, _, _ => none
  | some (.array n e), .ptr (some (i, off)) =>
    match sizeT P e, boundO lo 0, boundO hi n, mx with
    | some sz, some l, some h, none =>
      if l ≤ h ∧ h ≤ n then some (.slice (some (i, if n = l then off else off + l * sz)) (h - l) (.ex (n - l))) else none
    | _, _, _, _ => none
  | _, _ => none

/-- The most bytes that a grown slice may take here. -/
def growMax : Nat := 70368744177664

/-- append: 'xs': the cells of what is appended, n elements. -/
def appendL (P : Program) (H : LH) (e : Nat) (s : LV) (n : Nat) (xs : List LV) : Option (LV × LH) :=
  match sizeT P e, bytesT P e, zeroT P e with
  | some sz, some by_, some z0 =>
    if sz = 0 then none else
    if by_ = 0 then none else
    if z0.cells.length ≠ sz then none else
    match s with
    | .slice none _ _ =>
      if n = 0 then some (s, H)
      else if n * by_ ≤ growMax then some (.slice (some (H.next, 0)) n (.op sz), H.new (.cells xs e true true)) else none
    | .emp => if n = 0 then some (s, H) else none
    | .slice (some (i, off)) len (.ex c) =>
      if len + n ≤ c then
        if n = 0 then some (.slice (some (i, off)) len (.ex c), H)
        else (storeCellsL H i (off + len * sz) xs).map fun H' => (.slice (some (i, off)) (len + n) (.ex c), H')
      else if (len + n) * by_ ≤ growMax then
        (cellsAt H i off (len * sz)).map fun old => (.slice (some (H.next, 0)) (len + n) (.op sz), H.new (.cells (old ++ xs) e true true))
      else none
    | .slice (some (i, off)) len (.op z) =>
      if z ≠ sz then none else
      match H.get i with
      | some (.cells cs el true true) =>
        if el ≠ e then none
        else if n = 0 then if off + len * sz ≤ cs.length then some (.slice (some (i, off)) len (.op sz), H) else none
        else if off + (len + n) * sz ≤ cs.length then
          (storeCellsL H i (off + len * sz) xs).map fun H' => (.slice (some (i, off)) (len + n) (.op sz), H')
        else if (len + n) * by_ ≤ growMax ∧ off + len * sz ≤ cs.length then
          some (.slice (some (H.next, 0)) (len + n) (.op sz), (H.del i).new (.cells ((cs.drop off).take (len * sz) ++ xs) e true true))
        else none
      | _ => none
    | _ => none
  | _, _, _ => none

def fieldOf (P : Program) (t k : Nat) : Option Field :=
  match P.underlying t with
  | some (.struct fs) => fs[k]?
  | _ => none

def indexAddrL (P : Program) (t : Nat) (x ix : LV) : Option LV :=
  match P.underlying t, x, natOf ix with
  | some (.array n e), .ptr (some (i, off)), some j => (sizeT P e).bind fun sz => if j < n then some (.ptr (some (i, off + j * sz))) else none
  | some (.slice e), .slice (some (i, off)) n _, some j => (sizeT P e).bind fun sz => if j < n then some (.ptr (some (i, off + j * sz))) else none
  | _, _, _ => none

def indexL (P : Program) (t : Nat) (x ix : LV) : Option LV :=
  match P.underlying t, x, natOf ix with
  | some (.array n e), .agg cs, some j => (sizeT P e).bind fun sz => if j < n then partL P e cs (j * sz) else none
  | some .string, .str s, some j => (s[j]?).map fun b => .int .u8 b.toNat
  | _, _, _ => none

def stringOf : List LV → Option (List UInt8)
  | [] => some []
  | .int .u8 n :: r => (stringOf r).map (UInt8.ofNat n.toNat :: ·)
  | _ => none

def convertL (P : Program) (H : LH) (src dst : Nat) (x : LV) : Option (LV × LH) :=
  match P.underlying src, P.underlying dst, x with
  | some _, some (.int k), .int _ n => some (.int k (k.wrap n), H)
  | some _, some .string, .str s => some (.str s, H)
  | some _, some (.slice e), .str s =>
    match P.underlying e, sizeT P e, P.info? e with
    | some (.int .u8), some 1, some _ => some (.slice (some (H.next, 0)) s.length (.op 1), H.new (.cells (bytesL s) e true true))
    | _, _, _ => none
  | some (.slice e), some .string, .slice none _ _ =>
    match P.underlying e with
    | some (.int .u8) => some (.str [], H)
    | _ => none
  | some (.slice e), some .string, .emp =>
    match P.underlying e with
    | some (.int .u8) => some (.str [], H)
    | _ => none
  | some (.slice e), some .string, .slice (some (i, off)) n _ =>
    match P.underlying e with
    | some (.int .u8) => (cellsAt H i off n).bind fun cs => (stringOf cs).map fun s => (.str s, H)
    | _ => none
  | _, _, _ => none

def makeSliceL (P : Program) (H : LH) (t : Nat) (len cap : LV) : Option (LV × LH) :=
  match sliceElem P t, natOf len, natOf cap with
  | some e, some l, some c =>
    match sizeT P e, bytesT P e, zeroT P e with
    | some sz, some by_, some z =>
      if l ≤ c ∧ c * by_ ≤ growMax ∧ c ≤ growMax ∧ 0 < sz ∧ z.cells.length = sz then
        some (.slice (some (H.next, 0)) l (.ex c), H.new (.cells (zerosL c z.cells) e true false))
      else none
    | _, _, _ => none
  | _, _, _ => none

def copyL (P : Program) (H : LH) (t : Nat) (d s : LV) : Option (LV × LH) :=
  match sliceElem P t, lenD d, lenL s with
  | some e, some dn, some sn =>
    match sizeT P e with
    | some sz =>
      let n := min sn dn
      if n = 0 then some (.int .i64 0, H) else
      match firstL H sz n s, d with
      | some xs, .slice (some (i, off)) _ _ => if xs.all oneCell then (storeCellsL H i off xs).map fun H' => (.int .i64 n, H') else none
      | _, _ => none
    | none => none
  | _, _, _ => none

def allLen (n : Nat) : List LV → Option (List Int)
  | [] => if n = 0 then some [] else none
  | .int _ x :: r => match n with
    | 0 => none
    | m + 1 => (allLen m r).map (x :: ·)
  | _ => none

def foldMin (mx : Bool) (k : IntKind) : Int → List LV → Option LV
  | x, [] => some (.int k x)
  | x, .int _ y :: r => if mx then foldMin mx k (if y > x then y else x) r else foldMin mx k (if y < x then y else x) r
  | _, _ => none

def typeAssertL (P : Program) (asserted : Nat) (x : LV) (ok : Bool) : Option LV :=
  match P.underlying asserted, x with
  | some (.interface want), .iface t v =>
    match P.info? t with
    | some i =>
      match Instr.missingMethod want i.methods with
      | none => some (if ok then .tuple [.iface t v, .bool true] else .iface t v)
      | some _ => if ok then (zeroT P asserted).map fun z => .tuple [z, .bool false] else none
    | none => none
  | some _, .iface t v =>
    if t = asserted then some (if ok then .tuple [v, .bool true] else v)
    else if ok then (zeroT P asserted).map fun z => .tuple [z, .bool false] else none
  | some _, .nilIface => if ok then (zeroT P asserted).map fun z => .tuple [z, .bool false] else none
  | _, _ => none

/-! ### one operation -/
inductive OR where
  | val (v : LV) (H : LH)
  | skip (H : LH)
  | call (f : Nat) (args : List LV)
  | round (l : Nat) (args : List LV)
  | defer (d : LDef)
  | recov
  | panic (v : LV)

def evAll (E : Env) : List Operand → Option (List LV)
  | [] => some []
  | x :: xs =>
    match E.ev x, evAll E xs with
    | some v, some vs => some (v :: vs)
    | _, _ => none

def evParts (E : Env) : List (Nat × Operand) → Option (List (Nat × LV))
  | [] => some []
  | (i, x) :: xs =>
    match E.ev x, evParts E xs with
    | some v, some vs => some ((i, v) :: vs)
    | _, _ => none

/-- The method of a dynamic type: its function, and the receiver that it is handed. -/
def methodL (P : Program) (H : LH) (t : Nat) (v : LV) (name : String) : Option (Nat × LV) :=
  match (P.info? t).bind fun i => i.methods.find? (·.name == name) with
  | some m =>
    if m.path.isEmpty then
      match m.func, P.underlying t with
      | some (f, true), some (.pointer _) => some (f, v)
      | some (f, false), some (.pointer e) => (loadL P H e v).map fun x => (f, x)
      | some (f, false), some _ => some (f, v)
      | _, _ => none
    else none
  | none => none

/-- The method of this dynamic type is known to stand, and its receiver is not a nil pointer that it would be read through. -/
def methodStands (P : Program) (t : Nat) (v : LV) (name : String) : Bool :=
  match (P.info? t).bind fun i => i.methods.find? (·.name == name) with
  | some m =>
    if m.path.isEmpty then
      match m.func with
      | some (_, true) => true
      | some (_, false) =>
        match P.underlying t with
        | some (.pointer _) => (match v with | .ptr (some _) => true | _ => false)
        | some _ => true
        | none => false
      | none => false
    else false
  | none => false

/-- A function that the evaluator may enter. -/
def enterable (P : Program) (f : Nat) : Bool :=
  match P.funcs[f]? with
  | some fn => fn.body.isSome && !(fn.name == "runtime.NumGoroutine")
  | none => false

def callFn (P : Program) (f : Nat) (args : List LV) : Option OR := if enterable P f then some (.call f args) else none

def callValue (P : Program) (H : LH) (g : LV) (args : List LV) : Option OR :=
  match g with
  | .func (.func f) first captured => callFn P f (first ++ args ++ captured)
  | .func (.method name) first _ =>
    match first ++ args with
    | .iface t v :: r => (methodL P H t v name).bind fun (f, recv) => callFn P f (recv :: r)
    | _ => none
  | .func (.methodOf t name) first _ =>
    match first ++ args with
    | v :: r =>
      match P.underlying t with
      | some (.interface _) => match v with
        | .iface u x => (methodL P H u x name).bind fun (f, recv) => callFn P f (recv :: r)
        | _ => none
      | some _ => (methodL P H t v name).bind fun (f, recv) => callFn P f (recv :: r)
      | none => none
    | [] => none
  | .yield l => some (.round l args)
  | _ => none

/-! ### maps (keys: integers) -/
def findL (a : IntKind) (x : Int) : List (LV × LV × Nat) → Nat → Option (Option (Nat × LV))
  | [], _ => some none
  | (k, v, _) :: es, i =>
    match k with
    | .int b y => if a = b then (if x = y then some (some (i, v)) else findL a x es (i + 1)) else none
    | _ => none

def lookupL (P : Program) (H : LH) (t : Nat) (m key : LV) (ok : Bool) : Option LV :=
  match P.underlying t with
  | some (.map kt et) =>
    match P.underlying kt, key with
    | some (.int _), .int a x =>
      match (match m with
        | .map none => some []
        | .map (some r) => (match H.get r with | some (.map es _) => some es | _ => none)
        | _ => none) with
      | some es =>
        match findL a x es 0 with
        | some (some (_, v)) => some (if ok then .tuple [v, .bool true] else v)
        | some none => (zeroT P et).map fun z => if ok then .tuple [z, .bool false] else z
        | none => none
      | none => none
    | _, _ => none
  | _ => none
def setE (key val : LV) : List (LV × LV × Nat) → Nat → List (LV × LV × Nat)
  | [], _ => []
  | (_, _, n) :: es, 0 => (key, val, n) :: es
  | e :: es, i + 1 => e :: setE key val es i

def mapUpdateL (P : Program) (H : LH) (t : Nat) (m key val : LV) : Option LH :=
  match P.underlying t, m, key with
  | some (.map kt _), .map (some r), .int a x =>
    match P.underlying kt, H.get r with
    | some (.int _), some (.map es c) =>
      match findL a x es 0 with
      | some (some (i, _)) => some (H.put r (.map (setE key val es i) c))
      | some none => some (H.put r (.map (es ++ [(key, val, c)]) (c + 1)))
      | none => none
    | _, _ => none
  | _, _, _ => none

def deleteL (P : Program) (H : LH) (t : Nat) (m key : LV) : Option LH :=
  match P.underlying t, key with
  | some (.map kt _), .int a x =>
    match P.underlying kt, m with
    | some (.int _), .map none => some H
    | some (.int _), .map (some r) =>
      match H.get r with
      | some (.map es c) =>
        match findL a x es 0 with
        | some (some (i, _)) => some (H.put r (.map (es.eraseIdx i) c))
        | some none => some (H.put r (.map es c))
        | none => none
      | _ => none
    | _, _ => none
  | _, _ => none

def builtinL (P : Program) (H : LH) (b : Builtin) (ts : List Nat) (args : List LV) : Option OR :=
  match b, ts, args with
  | .len, t :: _, [x] =>
    match P.underlying t, x with
    | some .string, .str s => some (.val (.int .i64 s.length) H)
    | some (.slice _), .slice _ n _ => some (.val (.int .i64 n) H)
    | some (.slice _), .emp => some (.val (.int .i64 0) H)
    | some (.array n _), _ => some (.val (.int .i64 n) H)
    | some (.map _ _), .map none => some (.val (.int .i64 0) H)
    | some (.map _ _), .map (some r) =>
      match H.get r with
      | some (.map es _) => some (.val (.int .i64 es.length) H)
      | _ => none
    | _, _ => none
  | .cap, t :: _, [x] =>
    match P.underlying t, x with
    | some (.slice _), .slice _ _ (.ex c) => some (.val (.int .i64 c) H)
    | _, _ => none
  | .append, t :: t' :: _, [s, x] =>
    match sliceElem P t, P.underlying t' with
    | some e, some (.int _) =>
      match natOf x, sizeT P e, bytesT P e, zeroT P e with
      | some n, some sz, some by_, some z =>
        if n * by_ ≤ growMax ∧ n ≤ growMax ∧ z.cells.length = sz ∧ z.cells.all oneCell = true then (appendL P H e s n (zerosL n z.cells)).map fun (v, H') => .val v H' else none
      | _, _, _, _ => none
    | some e, some _ =>
      match lenL x, sizeT P e with
      | some n, some sz => (firstL H sz n x).bind fun xs => if xs.all oneCell then (appendL P H e s n xs).map fun (v, H') => .val v H' else none
      | _, _ => none
    | _, _ => none
  | .copy, t :: _, [d, s] => (copyL P H t d s).map fun (v, H') => .val v H'
  | .min, _, .int k x :: r => (foldMin false k x r).map fun v => .val v H
  | .max, _, .int k x :: r => (foldMin true k x r).map fun v => .val v H
  | .panic, _, [.iface t v] => some (.panic (.iface t v))
  | .recover, _, _ => some .recov
  | .delete, t :: _, [m, k] => (deleteL P H t m k).map fun H' => .val (.tuple []) H'
  | _, _, _ => none

def placesAll (P : Program) (fs : List Field) : Option (List (Nat × Nat)) :=
  fs.mapM fun f => (P.info? f.type).map fun i => (f.offset, i.size)

def lop (P : Program) (E : Env) (H : LH) (o : Oper) : Option OR :=
  let v (x : Option LV) : Option OR := x.map fun v => .val v H
  let vh (x : Option (LV × LH)) : Option OR := x.map fun (v, H') => .val v H'
  match o.op with
  | .move x | .assign x => v (E.ev x)
  | .pick c a b =>
    match E.ev c with
    | some (.bool true) => v (E.ev a)
    | some (.bool false) => v (E.ev b)
    | _ => none
  | .alloc t => (zeroT P t).bind fun z => some (.val (.ptr (some (H.next, 0))) (H.new (.cells z.cells t true false)))
  | .box t x => (E.ev x).bind fun z => if z.cells.all oneCell then some (.val (.ptr (some (H.next, 0))) (H.new (.cells z.cells t true false))) else none
  | .build t parts =>
    match zeroT P t, evParts E parts.toList with
    | some z, some ps =>
      match P.underlying t with
      | some (.struct fs) => (placesAll P fs.toList).bind fun pl => v ((fillL (pl[·]?) z.cells ps).map .agg)
      | some (.array _ e) => (sizeT P e).bind fun s => v ((fillL (fun i => some (i * s, s)) z.cells ps).map .agg)
      | _ => none
    | _, _ => none
  | .buildSlice t len parts =>
    match sliceElem P t, evParts E parts.toList with
    | some e, some ps =>
      match sizeT P e, zeroT P e with
      | some s, some z =>
        if len ≤ 100000 ∧ s ≤ 64 ∧ z.cells.length = s then
          match fillL (fun i => some (i * s, s)) (zerosL len z.cells) ps with
          | some cs => some (.val (.slice (some (H.next, 0)) len (.ex len)) (H.new (.cells cs e true false)))
          | none => none
        else none
      | _, _ => none
    | _, _ => none
  | .load t a => (E.ev a).bind fun a => v (loadL P H t a)
  | .store t a x =>
    match E.ev a, E.ev x with
    | some a, some x => (storeL P H t a x).map .skip
    | _, _ => none
  | .nilCheck x =>
    match E.ev x with
    | some (.ptr (some a)) => some (.val (.ptr (some a)) H)
    | some (.iface t w) => some (.val (.iface t w) H)
    | some (.func (.func f) a b) => some (.val (.func (.func f) a b) H)
    | some (.func (.method name) [.iface t w] b) => if methodStands P t w name then some (.val (.func (.method name) [.iface t w] b) H) else none
    | some (.yield l) => some (.val (.yield l) H)
    | _ => none
  | .binOp op t x y _ =>
    match E.ev x, E.ev y with
    | some a, some b => v (lbin P op t x y a b)
    | _, _ => none
  | .unOp op _ x => (E.ev x).bind fun a => v (lun op a)
  | .convert s d x => (E.ev x).bind fun a => vh (convertL P H s d a)
  | .sliceToArrayPointer t x =>
    match P.underlying t, E.ev x with
    | some (.array n _), some (.slice a len _) => if n ≤ len then v (some (.ptr a)) else none
    | _, _ => none
  | .makeInterface t x =>
    match P.underlying t with
    | some (.interface _) => none
    | some _ => v ((E.ev x).map (.iface t))
    | none => none
  | .makeFunc fn first captured =>
    match fn, evAll E first.toList, evAll E captured.toList with
    | .yield _, _, _ => none
    | fn, some a, some b => some (.val (.func fn a b) H)
    | _, _, _ => none
  | .makeMap _ none => some (.val (.map (some H.next)) (H.new (.map [] 0)))
  | .makeSlice t l c =>
    match E.ev l, E.ev c with
    | some l, some c => vh (makeSliceL P H t l c)
    | _, _ => none
  | .slice t x lo hi mx =>
    match E.ev x, evAll E lo.toList, evAll E hi.toList, evAll E mx.toList with
    | some x, some lo, some hi, some mx => v (sliceL P H t x lo.head? hi.head? mx.head?)
    | _, _, _, _ => none
  | .fieldAddr t x k =>
    match E.ev x, fieldOf P t k with
    | some (.ptr (some (i, off))), some f =>
      match sizeT P f.type with
      | some (_ + 1) => some (.val (.ptr (some (i, off + f.offset))) H)
      | _ => none
    | _, _ => none
  | .field t x k =>
    match E.ev x, fieldOf P t k with
    | some (.agg cs), some f => v (partL P f.type cs f.offset)
    | _, _ => none
  | .indexAddr t x ix =>
    match E.ev x, E.ev ix with
    | some x, some ix => v (indexAddrL P t x ix)
    | _, _ => none
  | .index t x ix =>
    match E.ev x, E.ev ix with
    | some x, some ix => v (indexL P t x ix)
    | _, _ => none
  | .typeAssert x _ asserted ok => (E.ev x).bind fun x => v (typeAssertL P asserted x ok)
  | .lookup t x ix ok =>
    match E.ev x, E.ev ix with
    | some x, some ix => v (lookupL P H t x ix ok)
    | _, _ => none
  | .mapUpdate t m k x =>
    match E.ev m, E.ev k, E.ev x with
    | some m, some k, some x => (mapUpdateL P H t m k x).map .skip
    | _, _, _ => none
  | .extract t ix =>
    match E.ev t with
    | some (.tuple vs) => v (vs[ix]?)
    | _ => none
  | .call c =>
    match evAll E c.args.toList with
    | none => none
    | some args =>
      match c.callee with
      | .builtin b => builtinL P H b c.argTypes.toList args
      | .value g => (E.ev g).bind fun g => callValue P H g args
      | .invoke r name =>
        match E.ev r with
        | some (.iface t w) => (methodL P H t w name).bind fun (f, recv) => callFn P f (recv :: args)
        | _ => none
  | .defer c =>
    match evAll E c.args.toList, c.callee with
    | some args, .value g =>
      match E.ev g with
      | some (.func (.func f) first captured) => some (.defer { fn := .func f, captured, args := first ++ args })
      | _ => none
    | _, _ => none
  | .panic x =>
    match E.ev x with
    | some (.iface t w) => some (.panic (.iface t w))
    | _ => none
  | _ => none

end Go.Lv
