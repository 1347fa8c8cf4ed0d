/- Lv: the evaluator in a form that the kernel runs fast: operations and texts. -/
import Derived.Test.YtdbpidkbpiidiaaGreatDoorLvFastA
namespace Go.Lv
open Go
set_option linter.unusedVariables false
set_option linter.unusedSimpArgs false

def vF (H : LH) (x : Option LV) : Option OR := x.map fun v => .val v H
def vhF (x : Option (LV × LH)) : Option OR := x.map fun (v, H') => .val v H'

def lopB (P : Program) (op : Op) : Bx (Env → LH → Option OR) :=
  match op with
  | .move x => ⟨fun E H => vF H (E.ev x)⟩
  | .assign x => ⟨fun E H => vF H (E.ev x)⟩
  | .pick c a b => ⟨fun E H =>
    match E.ev c with
    | some (.bool true) => vF H (E.ev a)
    | some (.bool false) => vF H (E.ev b)
    | _ => none⟩
  | .alloc t => ⟨fun E H => (zeroT P t).bind fun z => some (.val (.ptr (some (H.next, 0))) (H.new (.cells z.cells t true false)))⟩
  | .box t x => ⟨fun E H => (E.ev x).bind fun z => if z.cells.all oneCell then some (.val (.ptr (some (H.next, 0))) (H.new (.cells z.cells t true false))) else none⟩
  | .build t parts => ⟨fun E H =>
    match zeroT P t, evParts E parts.toList with
    | some z, some ps =>
      match P.underlying t with
      | some (.struct fs) => (placesAll P fs.toList).bind fun pl => vF H ((fillL (pl[·]?) z.cells ps).map .agg)
      | some (.array _ e) => (sizeT P e).bind fun s => vF H ((fillL (fun i => some (i * s, s)) z.cells ps).map .agg)
      | _ => none
    | _, _ => none⟩
  | .buildSlice t len parts => ⟨fun E H =>
    match sliceElem P t, evParts E parts.toList with
    | some e, some ps =>
      match sizeT P e, zeroT P e with
      | some s, some z =>
        if len ≤ 100000 ∧ s ≤ 64 ∧ z.cells.length = s then
          match fillL (fun i => some (i * s, s)) (zerosL len z.cells) ps with
          | some cs => some (.val (.slice (some (H.next, 0)) len (.ex len)) (H.new (.cells cs e true false)))
          | none => none
        else none
      | _, _ => none
    | _, _ => none⟩
  | .load t a => ⟨fun E H => (E.ev a).bind fun a => vF H (loadL P H t a)⟩
  | .store t a x => ⟨fun E H =>
    match E.ev a, E.ev x with
    | some a, some x => (storeL P H t a x).map .skip
    | _, _ => none⟩
  | .nilCheck x => ⟨fun E H =>
    match E.ev x with
    | some (.ptr (some a)) => some (.val (.ptr (some a)) H)
    | some (.iface t w) => some (.val (.iface t w) H)
    | some (.func (.func f) a b) => some (.val (.func (.func f) a b) H)
    | some (.func (.method name) [.iface t w] b) => if methodStands P t w name then some (.val (.func (.method name) [.iface t w] b) H) else none
    | some (.yield l) => some (.val (.yield l) H)
    | _ => none⟩
  | .binOp op t x y _ => ⟨fun E H =>
    match E.ev x, E.ev y with
    | some a, some b => vF H (lbin P op t x y a b)
    | _, _ => none⟩
  | .unOp op _ x => ⟨fun E H => (E.ev x).bind fun a => vF H (lun op a)⟩
  | .convert s d x => ⟨fun E H => (E.ev x).bind fun a => vhF (convertL P H s d a)⟩
  | .sliceToArrayPointer t x => ⟨fun E H =>
    match P.underlying t, E.ev x with
    | some (.array n _), some (.slice a len _) => if n ≤ len then vF H (some (.ptr a)) else none
    | _, _ => none⟩
  | .makeInterface t x => ⟨fun E H =>
    match P.underlying t with
    | some (.interface _) => none
    | some _ => vF H ((E.ev x).map (.iface t))
    | none => none⟩
  | .makeFunc fn first captured => ⟨fun E H =>
    match fn, evAll E first.toList, evAll E captured.toList with
    | .yield _, _, _ => none
    | fn, some a, some b => some (.val (.func fn a b) H)
    | _, _, _ => none⟩
  | .makeMap _ none => ⟨fun E H => some (.val (.map (some H.next)) (H.new (.map [] 0)))⟩
  | .makeSlice t l c => ⟨fun E H =>
    match E.ev l, E.ev c with
    | some l, some c => vhF (makeSliceL P H t l c)
    | _, _ => none⟩
  | .slice t x lo hi mx => ⟨fun E H =>
    match E.ev x, evAll E lo.toList, evAll E hi.toList, evAll E mx.toList with
    | some x, some lo, some hi, some mx => vF H (sliceL P H t x lo.head? hi.head? mx.head?)
    | _, _, _, _ => none⟩
  | .fieldAddr t x k => ⟨fun E H =>
    match E.ev x, fieldOf P t k with
    | some (.ptr (some (i, off))), some f =>
      match sizeT P f.type with
      | some (_ + 1) => some (.val (.ptr (some (i, off + f.offset))) H)
      | _ => none
    | _, _ => none⟩
  | .field t x k => ⟨fun E H =>
    match E.ev x, fieldOf P t k with
    | some (.agg cs), some f => vF H (partL P f.type cs f.offset)
    | _, _ => none⟩
  | .indexAddr t x ix => ⟨fun E H =>
    match E.ev x, E.ev ix with
    | some x, some ix => vF H (indexAddrL P t x ix)
    | _, _ => none⟩
  | .index t x ix => ⟨fun E H =>
    match E.ev x, E.ev ix with
    | some x, some ix => vF H (indexL P t x ix)
    | _, _ => none⟩
  | .typeAssert x _ asserted ok => ⟨fun E H => (E.ev x).bind fun x => vF H (typeAssertL P asserted x ok)⟩
  | .lookup t x ix ok => ⟨fun E H =>
    match E.ev x, E.ev ix with
    | some x, some ix => vF H (lookupL P H t x ix ok)
    | _, _ => none⟩
  | .mapUpdate t m k x => ⟨fun E H =>
    match E.ev m, E.ev k, E.ev x with
    | some m, some k, some x => (mapUpdateL P H t m k x).map .skip
    | _, _, _ => none⟩
  | .extract t ix => ⟨fun E H =>
    match E.ev t with
    | some (.tuple vs) => vF H (vs[ix]?)
    | _ => none⟩
  | .call c => ⟨fun E H =>
    match evAll E c.args.toList with
    | none => none
    | some args =>
      match c.callee with
      | .builtin b => builtinL P H b c.argTypes.toList args
      | .value g => (E.ev g).bind fun g => callValue P H g args
      | .invoke r name =>
        match E.ev r with
        | some (.iface t w) => (methodL P H t w name).bind fun (f, recv) => callFn P f (recv :: args)
        | _ => none⟩
  | .defer c => ⟨fun E H =>
    match evAll E c.args.toList, c.callee with
    | some args, .value g =>
      match E.ev g with
      | some (.func (.func f) first captured) => some (.defer { fn := .func f, captured, args := first ++ args })
      | _ => none
    | _, _ => none⟩
  | .panic x => ⟨fun E H =>
    match E.ev x with
    | some (.iface t w) => some (.panic (.iface t w))
    | _ => none⟩
  | _ => ⟨fun E H => none⟩

theorem lopB_eq {P : Program} {E : Env} {H : LH} (o : Oper) : (lopB P o.op).f E H = lop P E H o := by
  obtain ⟨dst, op, ty, pos, after, guard⟩ := o
  cases op <;> first | rfl | skip
  case makeMap t r => cases r <;> rfl

/-! ### what is known of types and functions, as tables -/
structure TI where
  agg : Bool
  size : Nat
  elem : Option Nat
  flds : List (Option Nat)
/-- The tables: types, functions. -/
structure Tab where
  ty : Tr TI
  fn : Tr Func
noncomputable def Tab.ti (tb : Tab) (t : Nat) : Option TI := getP (pathOf t) tb.ty
noncomputable def Tab.func (tb : Tab) (f : Nat) : Option Func := getP (pathOf f) tb.fn
structure TabOk (P : Program) (tb : Tab) : Prop where
  ld : ∀ t i, tb.ti t = some i → isAggT P t = some i.agg ∧ sizeT P t = some i.size
  el : ∀ t i sz, tb.ti t = some i → i.elem = some sz → ∃ e, P.underlying t = some (.slice e) ∧ sizeT P e = some sz
  fl : ∀ t i k off, tb.ti t = some i → i.flds[k]? = some (some off) → ∃ f s, fieldOf P t k = some f ∧ sizeT P f.type = some (s + 1) ∧ f.offset = off
  fn : ∀ f fn, tb.func f = some fn → P.funcs[f]? = some fn

abbrev Rec := Task → Option Res
structure Cx where
  ask : Rec
  fn : Nat
  rnd : Option Nat
/-- Deferred calls, panic; and, within a region that draws its order: what was read and changed so far, the slots and heap ahead of the operation. -/
structure DP where
  D : List LDef
  pan : Option (LV × Bool)
  recs : List DRec := []
  bt : Option Sl := none
  bH : LH := ⟨0, .leaf⟩
inductive XR where
  | ret (t : Sl) (H : LH) (dp : DP)
  | panic (v : LV) (t : Sl) (H : LH) (dp : DP)
  | jump (j : Code) (t : Sl) (H : LH) (dp : DP)
/-- A text, ready to be run. -/
abbrev Ex := Cx → Sl → LH → DP → Option XR

/-- What an operation comes to, and on. (0: anything; 1: of a region that draws its order, one that may change; 2: one that may not.) -/
inductive Md where
  | any | chg | val
noncomputable def Md.at (m : Md) (a b c : Option XR) : Option XR := Md.rec a b c m
noncomputable def stepG (m : Md) (n : Nat) (d : Option Nat) (next : Bx Ex) (r : Option OR) : Ex := fun cx t H dp =>
  match r with
  | some (.val v H') => (putB n d).f v t (fun t => next.f cx t H' dp)
  | some (.skip H') => m.at ((putB n d).f undefV t (fun t => next.f cx t H' dp)) ((putB n d).f undefV t (fun t => next.f cx t H' dp)) none
  | some (.call f args) =>
    match cx.ask (.call f args H) with
    | some (.out (.ret v) H') => m.at ((putB n d).f v t (fun t => next.f cx t H' dp)) ((putB n d).f v t (fun t => next.f cx t H' dp)) none
    | some (.out (.panic v) H') => m.at (some (.panic v t H' dp)) none none
    | _ => none
  | some (.round l args) =>
    match cx.ask (.round l args H) with
    | some (.out (.ret v) H') => m.at ((putB n d).f v t (fun t => next.f cx t H' dp)) ((putB n d).f v t (fun t => next.f cx t H' dp)) none
    | some (.out (.panic v) H') => m.at (some (.panic v t H' dp)) none none
    | _ => none
  | some (.defer df) =>
    match cx.rnd with
    | none => m.at ((putB n d).f undefV t (fun t => next.f cx t H { dp with D := df :: dp.D })) none none
    | some _ => none
  | some .recov =>
    match cx.rnd, dp.pan with
    | none, some (v, false) => m.at ((putB n d).f v t (fun t => next.f cx t H { dp with pan := some (v, true) })) none none
    | none, none => m.at ((putB n d).f .nilIface t (fun t => next.f cx t H dp)) none none
    | _, _ => none
  | some (.panic v) => m.at (some (.panic v t H dp)) none none
  | none => none

noncomputable def slowX (P : Program) (m : Md) (n G : Nat) (op : Op) (d : Option Nat) (next : Bx Ex) : Bx Ex := ⟨fun cx t H dp => stepG m n d next ((lopB P op).f (fewE n G t op.operands.toList) H) cx t H dp⟩
noncomputable def failX : Bx Ex := ⟨fun _ _ _ _ => none⟩
noncomputable def thenF {α : Type} (x : Option α) (k : α → Option XR) : Option XR := Option.rec none k x
theorem thenF_none {α : Type} (k : α → Option XR) : thenF none k = none := rfl
theorem thenF_some {α : Type} (x : α) (k : α → Option XR) : thenF (some x) k = k x := rfl
noncomputable def cellK (H : LH) (a : LV) (off : Nat → Nat) : Option LV :=
  match a with
  | .ptr (some (i, o)) => (match H.getK i with
    | some (.cells cs _ _ _) => nthK cs (off o)
    | _ => none)
  | _ => none
noncomputable def aggK (H : LH) (m : Nat) (a : LV) : Option LV :=
  match a with
  | .ptr (some (i, o)) => (match H.getK i with
    | some (.cells cs _ _ _) => Option.rec none (fun xs => some (.agg xs)) (cutK o m cs)
    | _ => none)
  | _ => none
noncomputable def storeK (H : LH) (a x : LV) : Option LH :=
  match a with
  | .ptr (some (i, o)) => (match H.getK i with
    | some (.cells cs e true q) => Option.rec none (fun xs => some (H.putK i (.cells xs e true q))) (splK [x] o cs)
    | _ => none)
  | _ => none
noncomputable def ptrAt (a : LV) (f : Nat) : Option LV :=
  match a with
  | .ptr (some (i, o)) => some (.ptr (some (i, o + f)))
  | _ => none
noncomputable def elemAt (a ix : LV) (sz : Nat) : Option LV :=
  match a with
  | .slice (some (i, o)) n _ => (match ix with
    | .int _ (.ofNat j) => Bool.rec none (some (.ptr (some (i, o + j * sz)))) (Nat.blt j n)
    | _ => none)
  | _ => none
noncomputable def goOn (n : Nat) (d : Option Nat) (next : Bx Ex) (cx : Cx) (t : Sl) (H : LH) (dp : DP) (v : LV) : Option XR := (putB n d).f v t (fun t => next.f cx t H dp)
noncomputable def callX (m : Md) (n : Nat) (d : Option Nat) (next : Bx Ex) (f : Nat) (args : List LV) : Ex := fun cx t H dp =>
  match cx.ask (.call f args H) with
  | some (.out (.ret v) H') => m.at ((putB n d).f v t (fun t => next.f cx t H' dp)) ((putB n d).f v t (fun t => next.f cx t H' dp)) none
  | some (.out (.panic v) H') => m.at (some (.panic v t H' dp)) none none
  | _ => none
noncomputable def LH.newK (H : LH) (o : LO) : LH := ⟨H.next + 1, setP (some o) (pathOf H.next) H.t⟩
theorem LH.newK_eq (H : LH) (o : LO) : H.newK o = H.new o := by unfold LH.newK LH.new; rw [setP_eq]
noncomputable def ptrOr (x : LV) (k : Option XR) (g : Option XR) : Option XR := match x with | .ptr (some _) => k | _ => g
noncomputable def boolOr (x : LV) (y n : Option XR) : Option XR := match x with | .bool b => Bool.rec n y b | _ => none

noncomputable def opX (P : Program) (tb : Tab) (m : Md) (n G : Nat) (op : Op) (d : Option Nat) (next : Bx Ex) : Bx Ex :=
  match op with
  | .move x => ⟨fun cx t H dp => thenF ((evB G x).f t) (goOn n d next cx t H dp)⟩
  | .assign x => ⟨fun cx t H dp => thenF ((evB G x).f t) (goOn n d next cx t H dp)⟩
  | .pick c a b => ⟨fun cx t H dp => thenF ((evB G c).f t) fun q => boolOr q (thenF ((evB G a).f t) (goOn n d next cx t H dp)) (thenF ((evB G b).f t) (goOn n d next cx t H dp))⟩
  | .load ty a =>
    match tb.ti ty with
    | some i =>
      match i.agg, i.size with
      | false, _ => ⟨fun cx t H dp => thenF ((evB G a).f t) fun p => thenF (cellK H p (fun o => o)) (goOn n d next cx t H dp)⟩
      | true, z + 1 => ⟨fun cx t H dp => thenF ((evB G a).f t) fun p => thenF (aggK H (z + 1) p) (goOn n d next cx t H dp)⟩
      | _, _ => slowX P m n G (.load ty a) d next
    | none => slowX P m n G (.load ty a) d next
  | .store ty a x =>
    match tb.ti ty with
    | some i =>
      match i.size with
      | 1 => ⟨fun cx t H dp => thenF ((evB G a).f t) fun p => thenF ((evB G x).f t) fun v =>
          Bool.rec (stepG m n d next ((lopB P (.store ty a x)).f (fewE n G t [a, x]) H) cx t H dp) (thenF (storeK H p v) fun H' => m.at ((putB n d).f undefV t (fun t => next.f cx t H' dp)) ((putB n d).f undefV t (fun t => next.f cx t H' dp)) none) (oneCell v)⟩
      | _ => slowX P m n G (.store ty a x) d next
    | none => slowX P m n G (.store ty a x) d next
  | .nilCheck x => ⟨fun cx t H dp => thenF ((evB G x).f t) fun p => ptrOr p (goOn n d next cx t H dp p) (stepG m n d next ((lopB P (.nilCheck x)).f (fewE n G t [x]) H) cx t H dp)⟩
  | .binOp op ty x y ty2 => ⟨fun cx t H dp => thenF ((evB G x).f t) fun a => thenF ((evB G y).f t) fun b => thenF ((binB P op ty x y).f a b) (goOn n d next cx t H dp)⟩
  | .fieldAddr ty x k =>
    match (tb.ti ty).bind fun i => i.flds[k]? with
    | some (some off) => ⟨fun cx t H dp => thenF ((evB G x).f t) fun p => thenF (ptrAt p off) (goOn n d next cx t H dp)⟩
    | _ => slowX P m n G (.fieldAddr ty x k) d next
  | .indexAddr ty x ix =>
    match (tb.ti ty).bind fun i => i.elem with
    | some sz => ⟨fun cx t H dp => thenF ((evB G x).f t) fun p => thenF ((evB G ix).f t) fun j => thenF (elemAt p j sz) (goOn n d next cx t H dp)⟩
    | none => slowX P m n G (.indexAddr ty x ix) d next
  | .call c =>
    match c.callee with
    | .value (.func f) =>
      match (match tb.func f with | some fn => fn.body.isSome && !(fn.name == "runtime.NumGoroutine") | none => false) with
      | true => ⟨fun cx t H dp => thenF ((evsB G c.args.toList).f t) fun vs => callX m n d next f vs cx t H dp⟩
      | false => slowX P m n G (.call c) d next
    | _ => slowX P m n G (.call c) d next
  | .alloc ty =>
    match zeroT P ty with
    | some z => ⟨fun cx t H dp => goOn n d next cx t (H.newK (.cells z.cells ty true false)) dp (.ptr (some (H.next, 0)))⟩
    | none => failX
  | op => slowX P m n G op d next

theorem lopB_few {P : Program} {n G : Nat} {t : Sl} {op : Op} {H : LH} {xs : List Operand} (h : op.operands.toList = xs) : (lopB P op).f (fewE n G t xs) H = (lopB P op).f (mkE n G t) H := by
  have e : ∀ E, (lopB P op).f E H = lop P E H { (default : Oper) with op := op } := fun E => lopB_eq { (default : Oper) with op := op }
  rw [e, e]
  exact lop_env fun x hx => fewE_ev n G t xs x (by rw [← h]; simpa using hx)
theorem slowX_eq {P : Program} {m : Md} {n G : Nat} {op : Op} {d : Option Nat} {next : Bx Ex} {cx : Cx} {t : Sl} {H : LH} {dp : DP} : (slowX P m n G op d next).f cx t H dp = stepG m n d next ((lopB P op).f (mkE n G t) H) cx t H dp := by
  show stepG m n d next ((lopB P op).f (fewE n G t op.operands.toList) H) cx t H dp = _
  rw [lopB_few rfl]
theorem bind_then {α : Type} (x : Option α) (f : α → Option OR) (m : Md) (n : Nat) (d : Option Nat) (next : Bx Ex) (cx : Cx) (t : Sl) (H : LH) (dp : DP) :
    stepG m n d next (x.bind f) cx t H dp = thenF x fun a => stepG m n d next (f a) cx t H dp := by cases x <;> rfl
theorem map_then (x : Option LV) (m : Md) (n : Nat) (d : Option Nat) (next : Bx Ex) (cx : Cx) (t : Sl) (H : LH) (dp : DP) :
    stepG m n d next (vF H x) cx t H dp = thenF x (goOn n d next cx t H dp) := by cases x <;> rfl
theorem thenF_congr {α : Type} {x : Option α} {k k' : α → Option XR} (h : ∀ a, k a = k' a) : thenF x k = thenF x k' := by cases x <;> simp [thenF, h]

theorem getElem_iff {off : Nat} {cs : List LV} : (if off + 1 ≤ cs.length then some ((cs.drop off).take 1) else none) = (cs[off]?).map fun v => [v] := by
  by_cases h : off < cs.length
  · rw [if_pos (by omega), List.getElem?_eq_getElem h, List.drop_eq_getElem_cons h]; rfl
  · rw [if_neg (by omega), List.getElem?_eq_none (by omega)]; rfl

theorem loadL_cell {P : Program} {H : LH} {ty s : Nat} {p : LV} (h1 : isAggT P ty = some false) (h2 : sizeT P ty = some s) : loadL P H ty p = cellK H p (fun o => o) := by
  unfold loadL cellK
  cases p <;> first | rfl | skip
  rename_i a
  cases a with
  | none => rfl
  | some a =>
    obtain ⟨i, o⟩ := a
    simp only [h1, h2, cellsAt, LH.getK_eq, nthK_eq]
    cases H.get i with
    | none => rfl
    | some ob =>
      cases ob with
      | cells cs e own q =>
        simp only [getElem_iff]
        cases cs[o]? <;> rfl
      | _ => rfl
theorem loadL_agg {P : Program} {H : LH} {ty m : Nat} {p : LV} (h1 : isAggT P ty = some true) (h2 : sizeT P ty = some (m + 1)) : loadL P H ty p = aggK H (m + 1) p := by
  unfold loadL aggK
  cases p <;> first | rfl | skip
  rename_i a
  cases a with
  | none => rfl
  | some a =>
    obtain ⟨i, o⟩ := a
    simp only [h1, h2, cellsAt, LH.getK_eq, cutK_eq _ _ _ (Nat.succ_pos m)]
    cases H.get i with
    | none => rfl
    | some ob =>
      cases ob with
      | cells cs e own q =>
        simp only
        by_cases h : o + (m + 1) ≤ cs.length
        · rw [if_pos h]; rfl
        · rw [if_neg h]; rfl
      | _ => rfl
theorem storeL_cell {P : Program} {H : LH} {ty : Nat} {p v : LV} (h1 : sizeT P ty = some 1) (h2 : oneCell v = true) : storeL P H ty p v = storeK H p v := by
  have hc : v.cells = [v] := by cases v <;> simp_all [oneCell, LV.cells]
  unfold storeL storeK
  cases p <;> first | rfl | skip
  rename_i a
  cases a with
  | none => rfl
  | some a =>
    obtain ⟨i, o⟩ := a
    simp only [h1, hc, LH.getK_eq, splK_eq [v] _ _ (List.cons_ne_nil _ _)]
    rw [if_pos (by simp [h2])]
    unfold storeCellsL
    cases H.get i with
    | none => rfl
    | some ob =>
      cases ob with
      | cells cs e own q =>
        cases own with
        | false => rfl
        | true =>
          simp only [List.length_cons, List.length_nil, Nat.zero_add]
          by_cases h : o + 1 ≤ cs.length
          · rw [if_pos h, if_pos h, ← LH.putK_eq]
          · rw [if_neg h, if_neg h]
      | _ => rfl

theorem opX_eq {P : Program} {tb : Tab} (hT : TabOk P tb) (m : Md) (n G : Nat) (op : Op) (d : Option Nat) (next : Bx Ex) (cx : Cx) (t : Sl) (H : LH) (dp : DP) :
    (opX P tb m n G op d next).f cx t H dp = stepG m n d next ((lopB P op).f (mkE n G t) H) cx t H dp := by
  cases op <;> first | exact slowX_eq | skip
  case move x => simp only [opX, lopB, map_then, evB_eq n G]
  case assign x => simp only [opX, lopB, map_then, evB_eq n G]
  case pick c a b =>
    simp only [opX, lopB, evB_eq n G]
    cases (mkE n G t).ev c with
    | none => rfl
    | some q =>
      cases q <;> first | rfl | skip
      rename_i q
      cases q
      · simp only [map_then]; rfl
      · simp only [map_then]; rfl
  case load ty a =>
    simp only [opX]
    split
    · rename_i i hi
      obtain ⟨h1, h2⟩ := hT.ld ty i hi
      split
      · rename_i hb
        rw [hb] at h1
        simp only [lopB, bind_then, map_then, evB_eq n G, loadL_cell h1 h2]
      · rename_i z hb hz
        rw [hb] at h1
        rw [hz] at h2
        simp only [lopB, bind_then, map_then, evB_eq n G, loadL_agg h1 h2]
      · exact slowX_eq
    · exact slowX_eq
  case store ty a x =>
    simp only [opX]
    split
    · rename_i i hi
      obtain ⟨_, h1⟩ := hT.ld ty i hi
      split
      · rename_i hz
        rw [hz] at h1
        simp only [evB_eq n G]
        cases ha : (mkE n G t).ev a with
        | none => simp only [lopB, ha]; rfl
        | some p =>
          cases hx : (mkE n G t).ev x with
          | none => simp only [lopB, ha, hx]; rfl
          | some v =>
            simp only [thenF_some]
            cases hv : oneCell v with
            | false => exact congrArg (fun r => stepG m n d next r cx t H dp) (lopB_few (op := .store ty a x) rfl)
            | true =>
              simp only [lopB, ha, hx, storeL_cell h1 hv]
              cases storeK H p v <;> rfl
      · exact slowX_eq
    · exact slowX_eq
  case nilCheck x =>
    simp only [opX, evB_eq n G]
    cases hx : (mkE n G t).ev x with
    | none => simp only [lopB, hx]; rfl
    | some p =>
      simp only [thenF_some, ptrOr]
      split
      · simp only [lopB, hx]; rfl
      · exact congrArg (fun r => stepG m n d next r cx t H dp) (lopB_few (op := .nilCheck x) rfl)
  case binOp op ty x y ty2 =>
    simp only [opX, lopB, evB_eq n G, binB_eq]
    cases (mkE n G t).ev x with
    | none => rfl
    | some a =>
      cases (mkE n G t).ev y with
      | none => rfl
      | some b => simp only [map_then]; rfl
  case fieldAddr ty x k =>
    simp only [opX]
    split
    · rename_i off hoff
      obtain ⟨i, hi, hk⟩ := Option.bind_eq_some_iff.1 hoff
      obtain ⟨f, s, hf, hs, rfl⟩ := hT.fl ty i k off hi hk
      simp only [lopB, hf, evB_eq n G]
      cases (mkE n G t).ev x with
      | none => rfl
      | some p => cases p <;> first | rfl | (rename_i a; cases a <;> first | rfl | (simp only [hs]; rfl))
    · exact slowX_eq
  case alloc ty =>
    simp only [opX, lopB]
    cases zeroT P ty with
    | none => rfl
    | some z => simp only [LH.newK_eq]; rfl
  case indexAddr ty x ix =>
    simp only [opX]
    split
    · rename_i sz hsz
      obtain ⟨i, hi, hel⟩ := Option.bind_eq_some_iff.1 hsz
      obtain ⟨e, hu, hs⟩ := hT.el ty i sz hi hel
      simp only [lopB, indexAddrL, hu, hs, evB_eq n G]
      cases (mkE n G t).ev x with
      | none => rfl
      | some p =>
        cases (mkE n G t).ev ix with
        | none => rfl
        | some j =>
          simp only [thenF_some]
          cases p <;> first | rfl | skip
          rename_i a mm c
          cases a with
          | none => cases j <;> first | rfl | (simp only [natOf, elemAt]; rfl)
          | some a =>
            obtain ⟨i, o⟩ := a
            cases j <;> first | rfl | skip
            rename_i kk x
            cases x with
            | negSucc q => rfl
            | ofNat q =>
              simp only [elemAt, natOf]
              rw [if_pos (by exact Int.natCast_nonneg q)]
              simp only [hs, Option.bind_some, Int.toNat_natCast, Int.ofNat_eq_natCast]
              by_cases h : q < mm
              · rw [blt_iff.2 h, if_pos h]; rfl
              · rw [if_neg h]
                cases e : Nat.blt q mm with
                | true => exact absurd (blt_iff.1 e) h
                | false => rfl
    · exact slowX_eq
  case call c =>
    obtain ⟨cal, args, ats⟩ := c
    simp only [opX]
    split
    · rename_i f
      split
      · rename_i he
        have he : enterable P f = true := by
          cases hfn : tb.func f with
          | none => rw [hfn] at he; cases he
          | some fn =>
            rw [hfn] at he
            unfold enterable
            rw [hT.fn f fn hfn]; exact he
        simp only [lopB, evsB_eq n G]
        cases evAll (mkE n G t) args.toList with
        | none => rfl
        | some vs =>
          simp only [Env.ev, Option.bind_some, callValue, callFn, he, if_true, List.nil_append, List.append_nil]
          rfl
      · exact slowX_eq
    · exact slowX_eq
end Go.Lv
