/- Lv: what each operation comes to, by what is known. -/
import Derived.Test.YthakgknamfopcaaLvWp
namespace Go.Lv
open Go
set_option linter.unusedVariables false
set_option linter.unusedSimpArgs false
set_option linter.unusedSectionVars false

class TAgg (P : Program) (t : Nat) (b : outParam Bool) : Prop where out : isAggT P t = some b
class TSize (P : Program) (t : Nat) (n : outParam Nat) : Prop where out : sizeT P t = some n
class TBytes (P : Program) (t : Nat) (n : outParam Nat) : Prop where out : bytesT P t = some n
class TZero (P : Program) (t : Nat) (z : outParam LV) : Prop where out : zeroT P t = some z
class TUnd (P : Program) (t : Nat) (u : outParam TypeDesc) : Prop where out : P.underlying t = some u
class TField (P : Program) (t k : Nat) (off ft sz : outParam Nat) : Prop where out : ∃ f, fieldOf P t k = some f ∧ f.offset = off ∧ f.type = ft ∧ sizeT P ft = some sz
class TPlaces (P : Program) (t : Nat) (pl : outParam (List (Nat × Nat))) : Prop where out : ∃ fs, P.underlying t = some (.struct fs) ∧ placesAll P fs.toList = some pl
class TConc (P : Program) (t : Nat) : Prop where out : ∃ u, P.underlying t = some u ∧ (match u with | .interface _ => false | _ => true) = true
class Ent (P : Program) (f : Nat) : Prop where out : enterable P f = true

section
variable [Known] {P : Program} {G : Nat} {g : Kno} {H : LH}

theorem LK.mk' {op : Op} {r : OR} (h : ∀ (E : Env) (dst : Option Tmp) (ty : TypeId) (pos : String) (after : Array Edge) (gd : Option (Nat × Bool)), E.g = G → EK g E → lop P E H ⟨dst, op, ty, pos, after, gd⟩ = some r) : LK P G g H op r :=
  fun E o h1 h2 h3 => by
    obtain ⟨dst, op', ty, pos, after, gd⟩ := o
    simp only at h3
    subst h3
    exact h E dst ty pos after gd h1 h2

theorem LK.move {x : Operand} {v : LV} (hx : evk g G x = some v) : LK P G g H (.move x) (.val v H) := LK.mk' fun E _ _ _ _ _ h1 h2 => by
  simp only [lop, evk_ev h2 h1 hx, Option.map_some]
theorem LK.assign {x : Operand} {v : LV} (hx : evk g G x = some v) : LK P G g H (.assign x) (.val v H) := LK.mk' fun E _ _ _ _ _ h1 h2 => by
  simp only [lop, evk_ev h2 h1 hx, Option.map_some]
theorem LK.pick_t {c a b : Operand} {v : LV} (hc : evk g G c = some (.bool true)) (hx : evk g G a = some v) : LK P G g H (.pick c a b) (.val v H) := LK.mk' fun E _ _ _ _ _ h1 h2 => by
  simp only [lop, evk_ev h2 h1 hx, evk_ev h2 h1 hc, Option.map_some]
theorem LK.pick_f {c a b : Operand} {v : LV} (hc : evk g G c = some (.bool false)) (hx : evk g G b = some v) : LK P G g H (.pick c a b) (.val v H) := LK.mk' fun E _ _ _ _ _ h1 h2 => by
  simp only [lop, evk_ev h2 h1 hx, evk_ev h2 h1 hc, Option.map_some]
theorem LK.pick {c a b : Operand} {q : Bool} {v u : LV} (hc : evk g G c = some (.bool q)) (hx : evk g G a = some v) (hy : evk g G b = some u) : LK P G g H (.pick c a b) (.val (if q then v else u) H) := LK.mk' fun E _ _ _ _ _ h1 h2 => by
  cases q <;> simp only [lop, evk_ev h2 h1 hx, evk_ev h2 h1 hy, evk_ev h2 h1 hc, Option.map_some] <;> rfl

theorem LK.alloc {t : Nat} {z : LV} [hz : TZero P t z] : LK P G g H (.alloc t) (.val (.ptr (some (H.next, 0))) (H.new (.cells z.cells t true false))) := LK.mk' fun E _ _ _ _ _ h1 h2 => by
  simp only [lop, hz.out, Option.bind_some]
theorem LK.box {t : Nat} {x : Operand} {z : LV} (hx : evk g G x = some z) (hc : z.cells.all oneCell = true) : LK P G g H (.box t x) (.val (.ptr (some (H.next, 0))) (H.new (.cells z.cells t true false))) := LK.mk' fun E _ _ _ _ _ h1 h2 => by
  simp only [lop, evk_ev h2 h1 hx, Option.bind_some, hc, if_true]
theorem LK.build_s {t : Nat} {parts : Array (Nat × Operand)} {z : LV} {ps : List (Nat × LV)} {pl : List (Nat × Nat)} {cs : List LV} [hz : TZero P t z] [hp : TPlaces P t pl] (hx : evkp g G parts.toList = some ps)
    (hf : fillL (pl[·]?) z.cells ps = some cs) : LK P G g H (.build t parts) (.val (.agg cs) H) := LK.mk' fun E _ _ _ _ _ h1 h2 => by
  obtain ⟨fs, hu, hpl⟩ := hp.out
  simp only [lop, hz.out, evkp_ev h2 h1 hx, hu, hpl, Option.bind_some, hf, Option.map_some]
theorem LK.build_a {t n e s : Nat} {parts : Array (Nat × Operand)} {z : LV} {ps : List (Nat × LV)} {cs : List LV} [hz : TZero P t z] [hu : TUnd P t (.array n e)] [hs : TSize P e s] (hx : evkp g G parts.toList = some ps)
    (hf : fillL (fun i => some (i * s, s)) z.cells ps = some cs) : LK P G g H (.build t parts) (.val (.agg cs) H) := LK.mk' fun E _ _ _ _ _ h1 h2 => by
  simp only [lop, hz.out, evkp_ev h2 h1 hx, hu.out, hs.out, Option.bind_some, hf, Option.map_some]
theorem sliceElem_of {t e : Nat} (hu : P.underlying t = some (.slice e)) : sliceElem P t = some e := by simp only [sliceElem, hu]
theorem LK.buildSlice {t e s len : Nat} {parts : Array (Nat × Operand)} {z : LV} {ps : List (Nat × LV)} {cs : List LV} [hu : TUnd P t (.slice e)] [hs : TSize P e s] [hz : TZero P e z] (hx : evkp g G parts.toList = some ps)
    (hn : (decide (len ≤ 100000 ∧ s ≤ 64 ∧ z.cells.length = s)) = true) (hf : fillL (fun i => some (i * s, s)) (zerosL len z.cells) ps = some cs) :
    LK P G g H (.buildSlice t len parts) (.val (.slice (some (H.next, 0)) len (.ex len)) (H.new (.cells cs e true false))) := LK.mk' fun E _ _ _ _ _ h1 h2 => by
  simp only [lop, sliceElem_of hu.out, hs.out, hz.out, evkp_ev h2 h1 hx, if_pos (of_decide_eq_true hn), hf]

/-! loads and stores -/
theorem LK.load {t i off : Nat} {a : Operand} {cs : List LV} {e : Nat} {own opn : Bool} {v : LV} [ht : TAgg P t false] [hs : TSize P t 1] (ha : evk g G a = some (.ptr (some (i, off)))) (hi : H.get i = some (.cells cs e own opn))
    (hv : cs[off]? = some v) : LK P G g H (.load t a) (.val v H) := LK.mk' fun E _ _ _ _ _ h1 h2 => by
  have hl := (List.getElem?_eq_some_iff.1 hv)
  obtain ⟨h3, h4⟩ := hl
  have : (cs.drop off).take 1 = [v] := by rw [List.drop_eq_getElem_cons h3, h4]; rfl
  simp only [lop, evk_ev h2 h1 ha, Option.bind_some, loadL, ht.out, hs.out, cellsAt, hi, if_pos (show off + 1 ≤ cs.length by omega), this, Option.map_some]
theorem LK.load_agg {t i off n : Nat} {a : Operand} {cs : List LV} {e : Nat} {own opn : Bool} {xs : List LV} [ht : TAgg P t true] [hs : TSize P t n] (ha : evk g G a = some (.ptr (some (i, off)))) (hi : H.get i = some (.cells cs e own opn))
    (hn : off + n ≤ cs.length) (hv : (cs.drop off).take n = xs) : LK P G g H (.load t a) (.val (.agg xs) H) := LK.mk' fun E _ _ _ _ _ h1 h2 => by
  simp only [lop, evk_ev h2 h1 ha, Option.bind_some, loadL, ht.out, hs.out, cellsAt, hi, if_pos hn, hv, Option.map_some]
theorem LK.store {t i off : Nat} {a x : Operand} {cs : List LV} {e n : Nat} {opn : Bool} {v : LV} [hs : TSize P t n] (ha : evk g G a = some (.ptr (some (i, off)))) (hx : evk g G x = some v) (hi : H.get i = some (.cells cs e true opn))
    (hn : v.cells.length = n) (hc : v.cells.all oneCell = true) (hl : off + n ≤ cs.length) : LK P G g H (.store t a x) (.skip (H.put i (.cells (splice cs off v.cells) e true opn))) := LK.mk' fun E _ _ _ _ _ h1 h2 => by
  subst hn
  simp only [lop, evk_ev h2 h1 ha, evk_ev h2 h1 hx, storeL, hs.out, hc, storeCellsL, hi, if_pos hl, and_self, if_true, Option.map_some]

theorem LK.nilCheck_ptr {x : Operand} {a : Nat × Nat} (hx : evk g G x = some (.ptr (some a))) : LK P G g H (.nilCheck x) (.val (.ptr (some a)) H) := LK.mk' fun E _ _ _ _ _ h1 h2 => by
  simp only [lop, evk_ev h2 h1 hx]
theorem LK.nilCheck_iface {x : Operand} {t : Nat} {w : LV} (hx : evk g G x = some (.iface t w)) : LK P G g H (.nilCheck x) (.val (.iface t w) H) := LK.mk' fun E _ _ _ _ _ h1 h2 => by
  simp only [lop, evk_ev h2 h1 hx]
theorem LK.nilCheck_func {x : Operand} {f : Nat} {a b : List LV} (hx : evk g G x = some (.func (.func f) a b)) : LK P G g H (.nilCheck x) (.val (.func (.func f) a b) H) := LK.mk' fun E _ _ _ _ _ h1 h2 => by
  simp only [lop, evk_ev h2 h1 hx]
theorem LK.nilCheck_yield {x : Operand} {l : Nat} (hx : evk g G x = some (.yield l)) : LK P G g H (.nilCheck x) (.val (.yield l) H) := LK.mk' fun E _ _ _ _ _ h1 h2 => by
  simp only [lop, evk_ev h2 h1 hx]
theorem LK.nilCheck_meth {x : Operand} {n : String} {t : Nat} {w : LV} {b : List LV} (hx : evk g G x = some (.func (.method n) [.iface t w] b)) (hs : methodStands P t w n = true) : LK P G g H (.nilCheck x) (.val (.func (.method n) [.iface t w] b) H) := LK.mk' fun E _ _ _ _ _ h1 h2 => by
  simp only [lop, evk_ev h2 h1 hx, hs, if_true]

/-! numbers -/
theorem LK.bin {op : BinOp} {t t' : Nat} {x y : Operand} {a b v : LV} (hx : evk g G x = some a) (hy : evk g G y = some b) (hv : lbin P op t x y a b = some v) : LK P G g H (.binOp op t x y t') (.val v H) := LK.mk' fun E _ _ _ _ _ h1 h2 => by
  simp only [lop, evk_ev h2 h1 hx, evk_ev h2 h1 hy, hv, Option.map_some]
theorem lbin_int {op : BinOp} {t : Nat} {x y : Operand} {k : IntKind} {m n : Int} (h1 : op ≠ .shl) (h2 : op ≠ .shr) : lbin P op t x y (.int k m) (.int k n) = lint op k m n := by
  cases op <;> simp_all [lbin]
section
variable {t t' : Nat} {x y : Operand} {k k' : IntKind} {a b : Int}
theorem LK.add (hx : evk g G x = some (.int k a)) (hy : evk g G y = some (.int k b)) : LK P G g H (.binOp .add t x y t') (.val (.int k (k.wrap (a + b))) H) := LK.bin hx hy (by rw [lbin_int (by simp) (by simp)]; rfl)
theorem LK.sub (hx : evk g G x = some (.int k a)) (hy : evk g G y = some (.int k b)) : LK P G g H (.binOp .sub t x y t') (.val (.int k (k.wrap (a - b))) H) := LK.bin hx hy (by rw [lbin_int (by simp) (by simp)]; rfl)
theorem LK.mul (hx : evk g G x = some (.int k a)) (hy : evk g G y = some (.int k b)) : LK P G g H (.binOp .mul t x y t') (.val (.int k (k.wrap (a * b))) H) := LK.bin hx hy (by rw [lbin_int (by simp) (by simp)]; rfl)
theorem LK.quo (hx : evk g G x = some (.int k a)) (hy : evk g G y = some (.int k b)) (hb : b ≠ 0) : LK P G g H (.binOp .quo t x y t') (.val (.int k (k.wrap (a.tdiv b))) H) := LK.bin hx hy (by rw [lbin_int (by simp) (by simp)]; simp only [lint, if_neg hb])
theorem LK.rem (hx : evk g G x = some (.int k a)) (hy : evk g G y = some (.int k b)) (hb : b ≠ 0) : LK P G g H (.binOp .rem t x y t') (.val (.int k (a.tmod b)) H) := LK.bin hx hy (by rw [lbin_int (by simp) (by simp)]; simp only [lint, if_neg hb])
theorem LK.eql (hx : evk g G x = some (.int k a)) (hy : evk g G y = some (.int k b)) : LK P G g H (.binOp .eql t x y t') (.val (.bool (a == b)) H) := LK.bin hx hy (by rw [lbin_int (by simp) (by simp)]; rfl)
theorem LK.neq (hx : evk g G x = some (.int k a)) (hy : evk g G y = some (.int k b)) : LK P G g H (.binOp .neq t x y t') (.val (.bool (a != b)) H) := LK.bin hx hy (by rw [lbin_int (by simp) (by simp)]; rfl)
theorem LK.lss (hx : evk g G x = some (.int k a)) (hy : evk g G y = some (.int k b)) : LK P G g H (.binOp .lss t x y t') (.val (.bool (decide (a < b))) H) := LK.bin hx hy (by rw [lbin_int (by simp) (by simp)]; rfl)
theorem LK.leq (hx : evk g G x = some (.int k a)) (hy : evk g G y = some (.int k b)) : LK P G g H (.binOp .leq t x y t') (.val (.bool (decide (a ≤ b))) H) := LK.bin hx hy (by rw [lbin_int (by simp) (by simp)]; rfl)
theorem LK.gtr (hx : evk g G x = some (.int k a)) (hy : evk g G y = some (.int k b)) : LK P G g H (.binOp .gtr t x y t') (.val (.bool (decide (b < a))) H) := LK.bin hx hy (by rw [lbin_int (by simp) (by simp)]; rfl)
theorem LK.geq (hx : evk g G x = some (.int k a)) (hy : evk g G y = some (.int k b)) : LK P G g H (.binOp .geq t x y t') (.val (.bool (decide (b ≤ a))) H) := LK.bin hx hy (by rw [lbin_int (by simp) (by simp)]; rfl)
/-- The bitwise operations, as numbers. -/
def bitI (op : BinOp) (k : IntKind) (a b : Int) : Int :=
  match op with
  | .and => k.wrap (BitVec.ofInt k.bits a &&& BitVec.ofInt k.bits b).toNat
  | .or => k.wrap (BitVec.ofInt k.bits a ||| BitVec.ofInt k.bits b).toNat
  | .xor => k.wrap (BitVec.ofInt k.bits a ^^^ BitVec.ofInt k.bits b).toNat
  | _ => k.wrap (BitVec.ofInt k.bits a &&& ~~~BitVec.ofInt k.bits b).toNat
theorem LK.and (hx : evk g G x = some (.int k a)) (hy : evk g G y = some (.int k b)) : LK P G g H (.binOp .and t x y t') (.val (.int k (bitI .and k a b)) H) := LK.bin hx hy (by rw [lbin_int (by simp) (by simp)]; rfl)
theorem LK.or (hx : evk g G x = some (.int k a)) (hy : evk g G y = some (.int k b)) : LK P G g H (.binOp .or t x y t') (.val (.int k (bitI .or k a b)) H) := LK.bin hx hy (by rw [lbin_int (by simp) (by simp)]; rfl)
theorem LK.xor (hx : evk g G x = some (.int k a)) (hy : evk g G y = some (.int k b)) : LK P G g H (.binOp .xor t x y t') (.val (.int k (bitI .xor k a b)) H) := LK.bin hx hy (by rw [lbin_int (by simp) (by simp)]; rfl)
theorem LK.andNot (hx : evk g G x = some (.int k a)) (hy : evk g G y = some (.int k b)) : LK P G g H (.binOp .andNot t x y t') (.val (.int k (bitI .andNot k a b)) H) := LK.bin hx hy (by rw [lbin_int (by simp) (by simp)]; rfl)
theorem LK.shl (hx : evk g G x = some (.int k a)) (hy : evk g G y = some (.int k' b)) (hb : 0 ≤ b) : LK P G g H (.binOp .shl t x y t') (.val (.int k (k.wrap (a * 2 ^ (min b.toNat k.bits)))) H) :=
  LK.bin hx hy (by simp only [lbin]; rw [if_neg (by omega)])
theorem LK.shr (hx : evk g G x = some (.int k a)) (hy : evk g G y = some (.int k' b)) (hb : 0 ≤ b) : LK P G g H (.binOp .shr t x y t') (.val (.int k (a.fdiv (2 ^ (min b.toNat k.bits)))) H) :=
  LK.bin hx hy (by simp only [lbin]; rw [if_neg (by omega)])
theorem LK.not {q : Bool} (hx : evk g G x = some (.bool q)) : LK P G g H (.unOp .not t x) (.val (.bool (!q)) H) := LK.mk' fun E _ _ _ _ _ h1 h2 => by
  simp only [lop, evk_ev h2 h1 hx, Option.bind_some, lun, Option.map_some]
theorem LK.neg (hx : evk g G x = some (.int k a)) : LK P G g H (.unOp .neg t x) (.val (.int k (k.wrap (0 - a))) H) := LK.mk' fun E _ _ _ _ _ h1 h2 => by
  simp only [lop, evk_ev h2 h1 hx, Option.bind_some, lun, Option.map_some]
theorem LK.compl (hx : evk g G x = some (.int k a)) : LK P G g H (.unOp .xor t x) (.val (.int k (bitI .xor k (if k.signed then -1 else k.max) a)) H) := LK.mk' fun E _ _ _ _ _ h1 h2 => by
  simp only [lop, evk_ev h2 h1 hx, Option.bind_some, lun, lbits, Option.map_some, bitI]
theorem LK.conv_int {s d : Nat} {ks : TypeDesc} [hs : TUnd P s ks] [hd : TUnd P d (.int k')] (hx : evk g G x = some (.int k a)) : LK P G g H (.convert s d x) (.val (.int k' (k'.wrap a)) H) := LK.mk' fun E _ _ _ _ _ h1 h2 => by
  simp only [lop, evk_ev h2 h1 hx, Option.bind_some, convertL, hs.out, hd.out, Option.map_some]
theorem LK.conv_str {s d : Nat} {ks : TypeDesc} {l : List UInt8} [hs : TUnd P s ks] [hd : TUnd P d .string] (hx : evk g G x = some (.str l)) : LK P G g H (.convert s d x) (.val (.str l) H) := LK.mk' fun E _ _ _ _ _ h1 h2 => by
  simp only [lop, evk_ev h2 h1 hx, Option.bind_some, convertL, hs.out, hd.out, Option.map_some]
end

/-! addresses -/
theorem LK.fieldAddr {t kf off ft sz i o : Nat} {x : Operand} [hf : TField P t kf off ft sz] (hx : evk g G x = some (.ptr (some (i, o)))) (hs : Nat.blt 0 sz = true) : LK P G g H (.fieldAddr t x kf) (.val (.ptr (some (i, o + off))) H) := LK.mk' fun E _ _ _ _ _ h1 h2 => by
  obtain ⟨f, hf1, rfl, rfl, hf2⟩ := hf.out
  cases sz with
  | zero => simp [Nat.blt] at hs
  | succ n => simp only [lop, evk_ev h2 h1 hx, hf1, hf2]
theorem LK.field {t kf off ft sz : Nat} {x : Operand} {cs : List LV} {v : LV} [hf : TField P t kf off ft sz] (hx : evk g G x = some (.agg cs)) (hv : partL P ft cs off = some v) : LK P G g H (.field t x kf) (.val v H) := LK.mk' fun E _ _ _ _ _ h1 h2 => by
  obtain ⟨f, hf1, rfl, rfl, hf2⟩ := hf.out
  simp only [lop, evk_ev h2 h1 hx, hf1, hv, Option.map_some]
theorem LK.indexAddr {t e sz i off n j : Nat} {c : LCap} {x ix : Operand} {vi : LV} [hu : TUnd P t (.slice e)] [hs : TSize P e sz] (hx : evk g G x = some (.slice (some (i, off)) n c)) (hix : evk g G ix = some vi) (hj : natOf vi = some j) (hlt : j < n) :
    LK P G g H (.indexAddr t x ix) (.val (.ptr (some (i, off + j * sz))) H) := LK.mk' fun E _ _ _ _ _ h1 h2 => by
  simp only [lop, evk_ev h2 h1 hx, evk_ev h2 h1 hix, indexAddrL, hu.out, hj, hs.out, Option.bind_some, if_pos hlt, Option.map_some]
theorem LK.indexAddr_arr {t e sz i off n j : Nat} {x ix : Operand} {vi : LV} [hu : TUnd P t (.array n e)] [hs : TSize P e sz] (hx : evk g G x = some (.ptr (some (i, off)))) (hix : evk g G ix = some vi) (hj : natOf vi = some j) (hlt : j < n) :
    LK P G g H (.indexAddr t x ix) (.val (.ptr (some (i, off + j * sz))) H) := LK.mk' fun E _ _ _ _ _ h1 h2 => by
  simp only [lop, evk_ev h2 h1 hx, evk_ev h2 h1 hix, indexAddrL, hu.out, hj, hs.out, Option.bind_some, if_pos hlt, Option.map_some]
theorem LK.index_arr {t e sz n j : Nat} {cs : List LV} {x ix : Operand} {vi v : LV} [hu : TUnd P t (.array n e)] [hs : TSize P e sz] (hx : evk g G x = some (.agg cs)) (hix : evk g G ix = some vi) (hj : natOf vi = some j) (hlt : j < n) (hv : partL P e cs (j * sz) = some v) :
    LK P G g H (.index t x ix) (.val v H) := LK.mk' fun E _ _ _ _ _ h1 h2 => by
  simp only [lop, evk_ev h2 h1 hx, evk_ev h2 h1 hix, indexL, hu.out, hj, hs.out, Option.bind_some, if_pos hlt, hv, Option.map_some]
theorem LK.index_str {t j : Nat} {s : List UInt8} {b : UInt8} {x ix : Operand} {vi : LV} [hu : TUnd P t .string] (hx : evk g G x = some (.str s)) (hix : evk g G ix = some vi) (hj : natOf vi = some j) (hb : s[j]? = some b) :
    LK P G g H (.index t x ix) (.val (.int .u8 b.toNat) H) := LK.mk' fun E _ _ _ _ _ h1 h2 => by
  simp only [lop, evk_ev h2 h1 hx, evk_ev h2 h1 hix, indexL, hu.out, hj, hb, Option.map_some]
theorem natOf_cast {k : IntKind} {j : Nat} : natOf (.int k (j : Int)) = some j := by simp [natOf]
theorem natOf_int {k : IntKind} {x : Int} (h : 0 ≤ x) : natOf (.int k x) = some x.toNat := by simp [natOf, h]

/-! others -/
theorem LK.makeInterface {t : Nat} {x : Operand} {v : LV} [hu : TConc P t] (hx : evk g G x = some v) : LK P G g H (.makeInterface t x) (.val (.iface t v) H) := LK.mk' fun E _ _ _ _ _ h1 h2 => by
  obtain ⟨u, hu, hi⟩ := hu.out
  simp only [lop, hu, evk_ev h2 h1 hx]
  cases u <;> first | rfl | (simp at hi)
theorem LK.makeFunc {f : Nat} {first captured : Array Operand} {a b : List LV} (ha : evks g G first.toList = some a) (hb : evks g G captured.toList = some b) : LK P G g H (.makeFunc (.func f) first captured) (.val (.func (.func f) a b) H) := LK.mk' fun E _ _ _ _ _ h1 h2 => by
  simp only [lop, evks_ev h2 h1 ha, evks_ev h2 h1 hb]
theorem LK.makeMeth {n : String} {first captured : Array Operand} {a b : List LV} (ha : evks g G first.toList = some a) (hb : evks g G captured.toList = some b) : LK P G g H (.makeFunc (.method n) first captured) (.val (.func (.method n) a b) H) := LK.mk' fun E _ _ _ _ _ h1 h2 => by
  simp only [lop, evks_ev h2 h1 ha, evks_ev h2 h1 hb]
theorem LK.makeMap {t : Nat} : LK P G g H (.makeMap t none) (.val (.map (some H.next)) (H.new (.map [] 0))) := LK.mk' fun E _ _ _ _ _ h1 h2 => rfl
theorem LK.extract {x : Operand} {ix : Nat} {vs : List LV} {v : LV} (hx : evk g G x = some (.tuple vs)) (hv : vs[ix]? = some v) : LK P G g H (.extract x ix) (.val v H) := LK.mk' fun E _ _ _ _ _ h1 h2 => by
  simp only [lop, evk_ev h2 h1 hx, hv, Option.map_some]
theorem LK.panic {x : Operand} {t : Nat} {w : LV} (hx : evk g G x = some (.iface t w)) : LK P G g H (.panic x) (.panic (.iface t w)) := LK.mk' fun E _ _ _ _ _ h1 h2 => by
  simp only [lop, evk_ev h2 h1 hx]
theorem LK.typeAssert {x : Operand} {xt as_ : Nat} {ok : Bool} {v r : LV} (hx : evk g G x = some v) (hr : typeAssertL P as_ v ok = some r) : LK P G g H (.typeAssert x xt as_ ok) (.val r H) := LK.mk' fun E _ _ _ _ _ h1 h2 => by
  simp only [lop, evk_ev h2 h1 hx, Option.bind_some, hr, Option.map_some]
theorem LK.slice {t : Nat} {x : Operand} {lo hi mx : Option Operand} {v r : LV} {l h m : List LV} (hx : evk g G x = some v) (hl : evks g G lo.toList = some l) (hh : evks g G hi.toList = some h) (hm : evks g G mx.toList = some m)
    (hr : sliceL P H t v l.head? h.head? m.head? = some r) : LK P G g H (.slice t x lo hi mx) (.val r H) := LK.mk' fun E _ _ _ _ _ h1 h2 => by
  simp only [lop, evk_ev h2 h1 hx, evks_ev h2 h1 hl, evks_ev h2 h1 hh, evks_ev h2 h1 hm, hr, Option.map_some]
theorem LK.makeSlice {t : Nat} {l c : Operand} {a b r : LV} {H' : LH} (ha : evk g G l = some a) (hb : evk g G c = some b) (hr : makeSliceL P H t a b = some (r, H')) : LK P G g H (.makeSlice t l c) (.val r H') := LK.mk' fun E _ _ _ _ _ h1 h2 => by
  simp only [lop, evk_ev h2 h1 ha, evk_ev h2 h1 hb, hr, Option.map_some]
theorem LK.convert {s d : Nat} {x : Operand} {a r : LV} {H' : LH} (ha : evk g G x = some a) (hr : convertL P H s d a = some (r, H')) : LK P G g H (.convert s d x) (.val r H') := LK.mk' fun E _ _ _ _ _ h1 h2 => by
  simp only [lop, evk_ev h2 h1 ha, Option.bind_some, hr, Option.map_some]
theorem LK.arrPtr {t n e len : Nat} {c : LCap} {x : Operand} {a : Option (Nat × Nat)} [hu : TUnd P t (.array n e)] (hx : evk g G x = some (.slice a len c)) (hn : n ≤ len) : LK P G g H (.sliceToArrayPointer t x) (.val (.ptr a) H) := LK.mk' fun E _ _ _ _ _ h1 h2 => by
  simp only [lop, hu.out, evk_ev h2 h1 hx, if_pos hn, Option.map_some]
theorem LK.lookup {t : Nat} {x ix : Operand} {ok : Bool} {m key r : LV} (hx : evk g G x = some m) (hi : evk g G ix = some key) (hr : lookupL P H t m key ok = some r) : LK P G g H (.lookup t x ix ok) (.val r H) := LK.mk' fun E _ _ _ _ _ h1 h2 => by
  simp only [lop, evk_ev h2 h1 hx, evk_ev h2 h1 hi, hr, Option.map_some]
theorem LK.mapUpdate {t : Nat} {m k x : Operand} {vm vk vx : LV} {H' : LH} (hm : evk g G m = some vm) (hk : evk g G k = some vk) (hx : evk g G x = some vx) (hr : mapUpdateL P H t vm vk vx = some H') : LK P G g H (.mapUpdate t m k x) (.skip H') := LK.mk' fun E _ _ _ _ _ h1 h2 => by
  simp only [lop, evk_ev h2 h1 hm, evk_ev h2 h1 hk, evk_ev h2 h1 hx, hr, Option.map_some]

/-! calls -/
theorem LK.call {f : Nat} {args : Array Operand} {ats : Array TypeId} {vs : List LV} [he : Ent P f] (ha : evks g G args.toList = some vs) : LK P G g H (.call ⟨.value (.func f), args, ats⟩) (.call f vs) := LK.mk' fun E _ _ _ _ _ h1 h2 => by
  simp only [lop, evks_ev h2 h1 ha, Env.ev, Option.bind_some, callValue, callFn, he.out, if_true, List.nil_append, List.append_nil]
theorem LK.call_val {x : Operand} {args : Array Operand} {ats : Array TypeId} {vs : List LV} {v : LV} {r : OR} (hx : evk g G x = some v) (ha : evks g G args.toList = some vs) (hr : callValue P H v vs = some r) :
    LK P G g H (.call ⟨.value x, args, ats⟩) r := LK.mk' fun E _ _ _ _ _ h1 h2 => by
  simp only [lop, evks_ev h2 h1 ha, evk_ev h2 h1 hx, Option.bind_some, hr]
theorem callValue_func {f : Nat} {a b vs : List LV} [he : Ent P f] : callValue P H (.func (.func f) a b) vs = some (.call f (a ++ vs ++ b)) := by
  simp only [callValue, callFn, he.out, if_true]
theorem callValue_yield {l : Nat} {vs : List LV} : callValue P H (.yield l) vs = some (.round l vs) := rfl
theorem LK.call_func {x : Operand} {f : Nat} {args : Array Operand} {ats : Array TypeId} {vs a b : List LV} [he : Ent P f] (hx : evk g G x = some (.func (.func f) a b)) (ha : evks g G args.toList = some vs) :
    LK P G g H (.call ⟨.value x, args, ats⟩) (.call f (a ++ vs ++ b)) := LK.call_val hx ha callValue_func
theorem LK.call_yield {x : Operand} {l : Nat} {args : Array Operand} {ats : Array TypeId} {vs : List LV} (hx : evk g G x = some (.yield l)) (ha : evks g G args.toList = some vs) :
    LK P G g H (.call ⟨.value x, args, ats⟩) (.round l vs) := LK.call_val hx ha callValue_yield
theorem LK.invoke {x : Operand} {name : String} {args : Array Operand} {ats : Array TypeId} {vs : List LV} {t f : Nat} {w recv : LV} [he : Ent P f] (hx : evk g G x = some (.iface t w)) (ha : evks g G args.toList = some vs) (hm : methodL P H t w name = some (f, recv)) :
    LK P G g H (.call ⟨.invoke x name, args, ats⟩) (.call f (recv :: vs)) := LK.mk' fun E _ _ _ _ _ h1 h2 => by
  simp only [lop, evks_ev h2 h1 ha, evk_ev h2 h1 hx, hm, Option.bind_some, callFn, he.out, if_true]
theorem LK.defer {x : Operand} {f : Nat} {args : Array Operand} {ats : Array TypeId} {vs a b : List LV} (hx : evk g G x = some (.func (.func f) a b)) (ha : evks g G args.toList = some vs) :
    LK P G g H (.defer ⟨.value x, args, ats⟩) (.defer { fn := .func f, captured := b, args := a ++ vs }) := LK.mk' fun E _ _ _ _ _ h1 h2 => by
  simp only [lop, evks_ev h2 h1 ha, evk_ev h2 h1 hx]
theorem LK.builtin {b : Builtin} {args : Array Operand} {ats : Array TypeId} {vs : List LV} {r : OR} (ha : evks g G args.toList = some vs) (hr : builtinL P H b ats.toList vs = some r) : LK P G g H (.call ⟨.builtin b, args, ats⟩) r := LK.mk' fun E _ _ _ _ _ h1 h2 => by
  simp only [lop, evks_ev h2 h1 ha, hr]
theorem LK.len {t : Nat} {x : Operand} {e n : Nat} {a : Option (Nat × Nat)} {c : LCap} [hu : TUnd P t (.slice e)] (hx : evk g G x = some (.slice a n c)) : LK P G g H (.call ⟨.builtin .len, #[x], #[t]⟩) (.val (.int .i64 n) H) :=
  LK.builtin (vs := [.slice a n c]) (by simp only [evks, hx]) (by simp only [builtinL, hu.out])
theorem LK.len_emp {t : Nat} {x : Operand} {e : Nat} [hu : TUnd P t (.slice e)] (hx : evk g G x = some .emp) : LK P G g H (.call ⟨.builtin .len, #[x], #[t]⟩) (.val (.int .i64 0) H) :=
  LK.builtin (vs := [.emp]) (by simp only [evks, hx]) (by simp only [builtinL, hu.out])
theorem LK.len_str {t : Nat} {x : Operand} {s : List UInt8} [hu : TUnd P t .string] (hx : evk g G x = some (.str s)) : LK P G g H (.call ⟨.builtin .len, #[x], #[t]⟩) (.val (.int .i64 s.length) H) :=
  LK.builtin (vs := [.str s]) (by simp only [evks, hx]) (by simp only [builtinL, hu.out])
theorem LK.recover {args : Array Operand} {ats : Array TypeId} {vs : List LV} (ha : evks g G args.toList = some vs) : LK P G g H (.call ⟨.builtin .recover, args, ats⟩) .recov := LK.builtin ha (by simp only [builtinL])
theorem LK.min {k : IntKind} {ts : Array TypeId} {x y : Operand} {a b : Int} (hx : evk g G x = some (.int k a)) (hy : evk g G y = some (.int k b)) : LK P G g H (.call ⟨.builtin .min, #[x, y], ts⟩) (.val (.int k (if b < a then b else a)) H) :=
  LK.builtin (vs := [.int k a, .int k b]) (by simp only [evks, hx, hy]) (by simp [builtinL, foldMin])
theorem LK.max {k : IntKind} {ts : Array TypeId} {x y : Operand} {a b : Int} (hx : evk g G x = some (.int k a)) (hy : evk g G y = some (.int k b)) : LK P G g H (.call ⟨.builtin .max, #[x, y], ts⟩) (.val (.int k (if b > a then b else a)) H) :=
  LK.builtin (vs := [.int k a, .int k b]) (by simp only [evks, hx, hy]) (by simp [builtinL, foldMin])
end

/-! ### a program's text, piece by piece -/
def subC : Code → List Nat → Code
  | c, [] => c
  | .seq a _, 0 :: p => subC a p
  | .seq _ b, _ :: p => subC b p
  | .cond _ a _, 0 :: p => subC a p
  | .cond _ _ b, _ :: p => subC b p
  | .block _ a, _ :: p => subC a p
  | .loop a, _ :: p => subC a p
  | .scope a, _ :: p => subC a p
  | .rangeFunc _ _ a _, 0 :: p => subC a p
  | .rangeFunc _ _ _ b, _ :: p => subC b p
  | _, _ => .skip
def bodyC (fn : Func) : Code := fn.body.getD .skip
def opsC : Code → Array Oper
  | .region _ ops _ => ops
  | _ => #[]
/-- A function's results. -/
class FnRes (P : Program) (f : Nat) (rs : outParam (List ResultVar)) : Prop where out : ∃ fn, P.funcs[f]? = some fn ∧ fn.results.toList = rs
theorem Fin.ret' [Known] {P : Program} {H : LH} {σ : FSt} {g : Kno} {rs : List ResultVar} {R : LOut → LH → Prop} {vs : List LV} [h : FnRes P σ.fn rs] (hD : σ.D = []) (hr : resK P H g rs = some vs) (hR : R (.ret (oneOr vs)) H) :
    ∀ E, E.n = σ.N → E.g = σ.G → EK g E → Fin P R (.ret (σ.at E H)) := by
  obtain ⟨fn, h1, rfl⟩ := h.out
  exact Fin.ret hD h1 hr hR
end Go.Lv
