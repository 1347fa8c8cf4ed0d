/- Lv, the logical evaluator: whole functions, by steps of a given number. Plain definitions; nothing is claimed here. -/
import Derived.Test.YthakgknamfopcaaLvCore
import Derived.Orders
import Derived.OrdersIn
namespace Go.Lv
open Go
set_option linter.unusedVariables false
set_option linter.unusedSimpArgs false

/-- What is still to be done in a frame. -/
inductive LItem where
  | code (c : Code)
  | ops (ops : Array Oper) (rest : List Oper)
  | inBlock (id : Nat)
  | inLoop (c : Code)
  | inScope (c : Code)
  | endRange (l : Nat)
  | beginRound

/-- A frame's state. 'rnd': it is a round of this loop; 'pan': the panic that its deferrer is in (recovered or not). -/
structure FS where
  fn : Nat
  E : Env
  H : LH
  D : List LDef
  rnd : Option Nat
  pan : Option (LV × Bool)

/-- How a frame ends. -/
inductive FR where
  | ret (S : FS)
  | panic (v : LV) (S : FS)
  | jump (j : Option Code) (S : FS)

/-- How a call ends. -/
inductive LOut where
  | ret (v : LV)
  | panic (v : LV)

def lexit (id : Nat) : List LItem → Option (List LItem)
  | .inBlock id' :: k => if id' == id then some k else lexit id k
  | _ :: k => lexit id k
  | [] => none

def lgoto (l : Nat) : List LItem → Option (List LItem)
  | .inScope c :: k =>
    match findLabel c l with
    | some rest => some (.code rest :: .inScope c :: k)
    | none => lgoto l k
  | _ :: k => lgoto l k
  | [] => none

mutual
def LV.beq : LV → LV → Bool
  | .bool a, .bool b => a == b
  | .int k a, .int l b => k == l && a == b
  | .str a, .str b => a == b
  | .ptr a, .ptr b => a == b
  | .slice a n c, .slice b m d => a == b && n == m && c == d
  | .map a, .map b => a == b
  | .nilFunc, .nilFunc => true
  | .nilIface, .nilIface => true
  | .emp, .emp => true
  | .yield a, .yield b => a == b
  | .iface t v, .iface u w => t == u && LV.beq v w
  | .agg a, .agg b => LV.beqs a b
  | .tuple a, .tuple b => LV.beqs a b
  | .func f a b, .func g c d => f == g && LV.beqs a c && LV.beqs b d
  | _, _ => false
def LV.beqs : List LV → List LV → Bool
  | [], [] => true
  | a :: x, b :: y => LV.beq a b && LV.beqs x y
  | _, _ => false
end

/-- Is the operation wanted? (none: not known) -/
def wantedL (ops : Array Oper) (E : Env) (o : Oper) : Option Bool :=
  match o.guard with
  | none => some true
  | some (j, want) =>
    match ((ops[j]?).bind (·.dst)).bind E.get with
    | some (.bool b) => some (b == want)
    | some _ => some false
    | none => none

/-! ### regions that draw their order -/
/-- Does an operation touch the heap, and how? 'make': it makes a block, and reads none. -/
inductive OKind where
  | free | make | read | mut
  deriving DecidableEq
def okind (P : Program) (o : Oper) : OKind :=
  match o.op with
  | .move _ | .assign _ | .pick .. | .build .. | .nilCheck _ | .binOp .. | .unOp .. | .makeInterface ..
  | .makeFunc .. | .fieldAddr .. | .field .. | .indexAddr .. | .index .. | .extract .. | .sliceToArrayPointer .. | .typeAssert .. => .free
  | .alloc _ | .box .. | .buildSlice .. | .makeMap .. | .makeSlice .. => .make
  | .load .. | .slice .. => .read
  | .convert s d _ =>
    match P.underlying s, P.underlying d with
    | some (.slice _), some (.slice _) => .mut
    | some (.slice _), _ => .read
    | some _, some (.slice _) => .make
    | some _, some _ => .free
    | _, _ => .mut
  | .call c =>
    match c.callee with
    | .builtin b =>
      match b with
      | .len => (match c.argTypes.toList with
        | t :: _ => (match P.underlying t with | some (.map _ _) => .mut | _ => .free)
        | _ => .mut)
      | .cap | .min | .max => .free
      | _ => .mut
    | _ => .mut
  | _ => .mut

/-- Must i have run ahead of j? -/
def ahead (b : Array Nat) (i j : Nat) : Bool := (b.getD j 0).testBit i

/-- The pairs of a reading and a changing operation whose order is open. -/
def confl (P : Program) (ops : Array Oper) : List (Nat × Nat) :=
  let b := Region.before ops
  let ks := ops.toList.zipIdx.filter fun (o, _) => okind P o == .read || okind P o == .mut
  (ks.flatMap fun (o, i) => ks.filterMap fun (p, j) =>
    if i < j && !ahead b i j && (okind P o == .mut || okind P p == .mut) then some (i, j) else none)

/-- Whatever writes a temporary and whatever else writes or looks at it stand in order. -/
def namesOk (ops : Array Oper) (b : Array Nat) : Bool :=
  ops.toList.zipIdx.all fun (p, i) =>
    match p.dst with
    | none => true
    | some t => ops.toList.zipIdx.all fun (o, j) => i == j || (!(o.looksAt ops).contains t && o.dst != some t) || (if i < j then ahead b i j else ahead b j i)

/-- Its name is its own. -/
def ownDst (ops : Array Oper) (o : Oper) (i : Nat) : Bool :=
  match o.dst with
  | some t => ops.toList.zipIdx.all fun (p, j) => i == j || p.dst != some t
  | none => false

/-- May the evaluator go through a region that draws its order in the order of the text? -/
def drawOk (P : Program) (ops : Array Oper) : Bool :=
  let b := Region.before ops
  namesOk ops b && Region.noSelect ops &&
  (ops.toList.zipIdx.all fun (o, i) =>
    (o.after.all fun e => !Region.binds .any e || e.on < i) &&
    (match o.guard with
      | none => true
      | some (j, _) => ahead b j i && ((ops[j]?).bind (·.dst)).isSome) &&
    (match o.op with | .defer _ => false | _ => true)) &&
  (ops.toList.zipIdx.all fun (o, i) => ops.toList.zipIdx.all fun (p, j) =>
    !(i < j && okind P p == .mut && (okind P o == .mut || okind P o == .make)) || ahead b i j || (okind P o == .make && ownDst ops o i))

/-! A block made by an operation whose order against a later changing one is open: the changing one runs without it. -/
def LV.bid? : LV → Option Nat
  | .ptr (some (i, _)) => some i
  | .slice (some (i, _)) _ _ => some i
  | .map (some i) => some i
  | _ => none

def LH.hide (H : LH) : List Nat → LH
  | [] => H
  | i :: l => (H.hide l).del i
def LH.back (H0 H : LH) : List Nat → LH
  | [] => H
  | i :: l => match H0.get i with
    | some o => (LH.back H0 H l).put i o
    | none => LH.back H0 H l

/-- Is each making operation ahead of each later changing one? -/
def makesOk (P : Program) (ops : Array Oper) : Bool :=
  ops.toList.zipIdx.all fun (o, i) => okind P o != .make || ops.toList.zipIdx.all fun (p, j) => !(decide (i < j) && okind P p == .mut) || ahead (Region.before ops) i j

def hidL (P : Program) (ops : Array Oper) (E : Env) (j : Nat) : Nat → Option (List Nat)
  | 0 => some []
  | i + 1 =>
    match hidL P ops E j i with
    | none => none
    | some l =>
      match ops[i]? with
      | some o =>
        if okind P o == .make && !ahead (Region.before ops) i j then
          match o.dst with
          | some t =>
            if t < E.n then
              match E.get t with
              | some v => match v.bid? with
                | some k => some (k :: l)
                | none => some l
              | none => none
            else none
          | none => none
        else some l
      | none => some l

/-- The blocks that the operation j has to do without. -/
def hidU (P : Program) (ops : Array Oper) (E : Env) (j : Nat) (o : Oper) : Option (List Nat) :=
  if okind P o != .mut || makesOk P ops then some [] else hidL P ops E j j

/-- What an operation of such a region has done that a later one may have to know. -/
inductive DRec where
  | read (i : Nat) (E : Env) (next : Nat) (o : Oper) (v : LV)
  | mut (i : Nat) (before : LH)

/-- The reading operation yields v with this heap too. -/
def again (P : Program) (E : Env) (H : LH) (o : Oper) (v : LV) : Bool :=
  match lop P E H o with
  | some (.val u _) => LV.beq u v
  | _ => false

def results (P : Program) (H : LH) (E : Env) : List ResultVar → Option (List LV)
  | [] => some []
  | r :: rs =>
    match (match r with | .tmp t => E.get t | .cell a t => (E.get a).bind (loadL P H t)), results P H E rs with
    | some v, some vs => some (v :: vs)
    | _, _ => none

def oneOr (vs : List LV) : LV :=
  match vs with
  | [v] => v
  | _ => .tuple vs

inductive Task where
  | frame (K : List LItem) (S : FS)
  | call (f : Nat) (args : List LV) (H : LH)
  | round (l : Nat) (args : List LV) (H : LH)
  | defs (S : FS) (p : Option (LV × Bool))

inductive Res where
  | fr (r : FR)
  | out (o : LOut) (H : LH)

/-- The operations of a region that draws its order, in the order of the text; 'chk': some pair's order matters unless it is shown not to. -/
def drun (P : Program) (rec : Task → Option Res) (ops : Array Oper) (chk : Bool) : List Oper → Nat → List DRec → FS → Option FR
  | [], _, _, S => some (.ret S)
  | o :: rest, j, recs, S =>
    match wantedL ops S.E o with
    | some false => drun P rec ops chk rest (j + 1) recs { S with E := S.E.putO o.dst undefV }
    | none => none
    | some true =>
      match hidU P ops S.E j o with
      | none => none
      | some U =>
      match okind P o, lop P S.E (S.H.hide U) o with
      | .mut, some r =>
        match (match r with
          | .val v H => some (v, H, false)
          | .skip H => some (undefV, H, false)
          | .call f args =>
            match rec (.call f args (S.H.hide U)) with
            | some (.out (.ret v) H) => some (v, H, false)
            | some (.out (.panic v) H) => some (v, H, true)
            | _ => none
          | .round l args =>
            match rec (.round l args (S.H.hide U)) with
            | some (.out (.ret v) H) => some (v, H, false)
            | some (.out (.panic v) H) => some (v, H, true)
            | _ => none
          | _ => none) with
        | none => none
        | some (v, H, true) =>
          if U.isEmpty && rest.isEmpty && (List.range j).all fun i => ahead (Region.before ops) i j then some (.panic v { S with H }) else none
        | some (v, H1, false) =>
          let H := LH.back S.H H1 U
          if chk && !(recs.all fun
            | .read i E next o' v' => ahead (Region.before ops) i j || again P E { H with next } o' v'
            | .mut _ _ => true) then none
          else drun P rec ops chk rest (j + 1) (if chk then .mut j S.H :: recs else recs) { S with E := S.E.putO o.dst v, H }
      | .read, some (.val v H) =>
        if chk && !(recs.all fun
          | .mut i before => ahead (Region.before ops) i j || again P S.E { before with next := S.H.next } o v
          | .read .. => true) then none
        else drun P rec ops chk rest (j + 1) (if chk then .read j S.E S.H.next o v :: recs else recs) { S with E := S.E.putO o.dst v, H }
      | _, some (.val v H) => drun P rec ops chk rest (j + 1) recs { S with E := S.E.putO o.dst v, H }
      | _, _ => none

/-- At the start of a range over a function: the mark among the deferred calls, of an outermost one. -/
def rangeOpen (S : FS) : LH × List LDef × Nat :=
  match S.rnd with
  | none => (S.H.new (.defd false), { fn := .func 0, captured := [], args := [], mark := some S.H.next } :: S.D, S.H.next)
  | some l => (S.H, S.D, match S.H.get l with | some (.loop _ _ _ _ _ _ _ dn) => dn | _ => 0)
def rangeStands (S : FS) : Bool :=
  match S.rnd with
  | none => true
  | some l => (match S.H.get l with | some (.loop ..) => true | _ => false)
/-- And then the loop's own record. -/
def rangeLoop (S : FS) (params : Array Tmp) (assign body : Code) : LH :=
  (rangeOpen S).1.new (.loop .ready none S.fn S.E params.toList assign body (rangeOpen S).2.2)

/-- One round of the evaluator: 'rec' is the evaluator with fewer steps. -/
def runStep (P : Program) (rec : Task → Option Res) : Task → Option Res
  | .frame K S =>
    let leave (j : Option Code) : Option Res :=
      match S.rnd with
      | none => match j with | none | some .ret => some (.fr (.ret S)) | _ => none
      | some _ => some (.fr (.jump j S))
    match K with
    | [] => leave none
    | .code .ret :: _ => leave (some .ret)
    | .code .skip :: k => rec (.frame k S)
    | .inBlock _ :: k => rec (.frame k S)
    | .inScope _ :: k => rec (.frame k S)
    | .code (.label _) :: k => rec (.frame k S)
    | .code (.scope c) :: k => rec (.frame (.code c :: .inScope c :: k) S)
    | .code (.goto l) :: k =>
      match lgoto l k with
      | some k' => rec (.frame k' S)
      | none => none
    | .code (.seq a b) :: k => rec (.frame (.code a :: .code b :: k) S)
    | .code (.cond c x y) :: k =>
      match S.E.ev c with
      | some (.bool true) => rec (.frame (.code x :: k) S)
      | some (.bool false) => rec (.frame (.code y :: k) S)
      | _ => none
    | .code (.block id c) :: k => rec (.frame (.code c :: .inBlock id :: k) S)
    | .code (.loop c) :: k => rec (.frame (.code c :: .inLoop c :: k) S)
    | .inLoop c :: k => rec (.frame (.code c :: .inLoop c :: k) S)
    | .code (.exit id) :: k =>
      match lexit id k with
      | some k' => rec (.frame k' S)
      | none => leave (some (.exit id))
    | .code (.region _ ops false) :: k => rec (.frame (.ops ops ops.toList :: k) S)
    | .code (.region _ ops true) :: k =>
      match drun P rec ops (!(confl P ops).isEmpty) ops.toList 0 [] S with
      | some (.ret S') => rec (.frame k S')
      | some (.panic v S') => some (.fr (.panic v S'))
      | _ => none
    | .ops _ [] :: k => rec (.frame k S)
    | .ops ops (o :: rest) :: k =>
      match wantedL ops S.E o with
      | some false => rec (.frame (.ops ops rest :: k) { S with E := S.E.putO o.dst undefV })
      | some true =>
        match lop P S.E S.H o with
        | some (.val v H) => rec (.frame (.ops ops rest :: k) { S with E := S.E.putO o.dst v, H })
        | some (.skip H) => rec (.frame (.ops ops rest :: k) { S with E := S.E.putO o.dst undefV, H })
        | some (.call f args) =>
          match rec (.call f args S.H) with
          | some (.out (.ret v) H) => rec (.frame (.ops ops rest :: k) { S with E := S.E.putO o.dst v, H })
          | some (.out (.panic v) H) => some (.fr (.panic v { S with H }))
          | _ => none
        | some (.round l args) =>
          match rec (.round l args S.H) with
          | some (.out (.ret v) H) => rec (.frame (.ops ops rest :: k) { S with E := S.E.putO o.dst v, H })
          | some (.out (.panic v) H) => some (.fr (.panic v { S with H }))
          | _ => none
        | some (.defer d) =>
          match S.rnd with
          | none => rec (.frame (.ops ops rest :: k) { S with E := S.E.putO o.dst undefV, D := d :: S.D })
          | some _ => none
        | some .recov =>
          match S.rnd, S.pan with
          | none, some (v, false) => rec (.frame (.ops ops rest :: k) { S with E := S.E.putO o.dst v, pan := some (v, true) })
          | none, none => rec (.frame (.ops ops rest :: k) { S with E := S.E.putO o.dst .nilIface })
          | _, _ => none
        | some (.panic v) => some (.fr (.panic v S))
        | none => none
      | none => none
    | .code (.rangeFunc f params assign body) :: k =>
      match S.E.ev f with
      | none => none
      | some g =>
        -- the loop's own record, and, of an outermost one, the mark among the deferred calls
        if ¬ rangeStands S then none else
        match callValue P (rangeLoop S params assign body) g [.yield (rangeOpen S).1.next] with
        | some (.call f args) =>
          match rec (.call f args (rangeLoop S params assign body)) with
          | some (.out (.ret _) H) => rec (.frame (.endRange (rangeOpen S).1.next :: k) { S with H, D := (rangeOpen S).2.1 })
          | some (.out (.panic v) H) => some (.fr (.panic v { S with H, D := (rangeOpen S).2.1 }))
          | _ => none
        | _ => none
    | .endRange l :: k =>
      match S.H.get l with
      | some (.loop st pend fn env ps a b dn) =>
        if st = .busy then none else
        let S' := { S with H := S.H.put l (.loop .exhausted pend fn env ps a b dn) }
        match pend with
        | some c => rec (.frame (.code c :: k) S')
        | none => rec (.frame k S')
      | _ => none
    | .beginRound :: k =>
      match S.rnd with
      | some l =>
        match S.H.get l with
        | some (.loop .ready pend fn env ps a b dn) => rec (.frame k { S with H := S.H.put l (.loop .busy pend fn env ps a b dn) })
        | _ => none
      | none => none
    | _ => none
  | .call f args H =>
    match P.funcs[f]? with
    | some fn =>
      match fn.body with
      | some c =>
        match rec (.frame [.code c] { fn := f, E := Env.start P fn.ntmps args, H, D := [], rnd := none, pan := none }) with
        | some (.fr (.ret S)) => rec (.defs S none)
        | some (.fr (.panic v S)) => rec (.defs S (some (v, false)))
        | _ => none
      | none => none
    | none => none
  | .round l args H =>
    match H.get l with
    | some (.loop _ _ fn env ps a b _) =>
      if ps.length ≠ args.length then none else
      let E := (ps.zip args).foldl (fun E (p : Nat × LV) => E.put p.1 p.2) env
      match rec (.frame [.code a, .beginRound, .code b] { fn, E, H, D := [], rnd := some l, pan := none }) with
      | some (.fr (.jump j S)) =>
        match S.D, S.H.get l with
        | [], some (.loop _ _ fn env ps a b dn) =>
          some (.out (.ret (.bool j.isNone)) (S.H.put l (.loop (if j.isNone then .ready else .done) j fn env ps a b dn)))
        | _, _ => none
      | some (.fr (.panic v S)) =>
        match S.D, P.funcs[S.fn]? with
        | [], some _ => some (.out (.panic v) S.H)
        | _, _ => none
      | _ => none
    | _ => none
  | .defs S p =>
    match S.D with
    | [] =>
      match p with
      | some (v, false) => some (.out (.panic v) S.H)
      | some (_, true) => none
      | none =>
        match P.funcs[S.fn]? with
        | some fn => (results P S.H S.E fn.results.toList).map fun vs => .out (.ret (oneOr vs)) S.H
        | none => none
    | d :: ds =>
      match d.mark with
      | some i =>
        match S.H.get i with
        | some (.defd false) => rec (.defs { S with D := ds, H := S.H.put i (.defd true) } p)
        | _ => none
      | none =>
        match d.fn with
        | .func g =>
          if ¬ enterable P g then none else
          match P.funcs[g]? with
          | some fn =>
            match fn.body with
            | some c =>
              match rec (.frame [.code c] { fn := g, E := Env.start P fn.ntmps (d.args ++ d.captured), H := S.H, D := [], rnd := none, pan := p }) with
              | some (.fr (.ret S')) =>
                match S'.D with
                | [] =>
                  match results P S'.H S'.E fn.results.toList with
                  | some _ => rec (.defs { S with D := ds, H := S'.H } (match S'.pan with | some (_, true) => none | q => q))
                  | none => none
                | _ => none
              | some (.fr (.panic v S')) =>
                match S'.D, S'.pan with
                | [], none => rec (.defs { S with D := ds, H := S'.H } (some (v, false)))
                | _, _ => none
              | _ => none
            | none => none
          | none => none
        | _ => none

def run (P : Program) : Nat → Task → Option Res
  | 0 => fun _ => none
  | n + 1 => runStep P (run P n)

/-- What the evaluator asks of a text, once: each region that draws its order may be gone through in the order of the text. -/
def codeOk (P : Program) : Code → Bool
  | .region _ ops true => drawOk P ops
  | .seq a b => codeOk P a && codeOk P b
  | .cond _ a b => codeOk P a && codeOk P b
  | .block _ a => codeOk P a
  | .loop a => codeOk P a
  | .scope a => codeOk P a
  | .rangeFunc _ _ a b => codeOk P a && codeOk P b
  | _ => true
def progOk (P : Program) : Bool :=
  P.follows .mixedOrders && P.funcs.toList.all fun fn => match fn.body with | some c => codeOk P c | none => true

end Go.Lv
