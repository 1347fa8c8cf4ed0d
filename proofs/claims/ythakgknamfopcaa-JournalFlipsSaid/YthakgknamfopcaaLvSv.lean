/- Lv: what is kept of a heap, slices that are read, slices that are grown, numbers that fit. -/
import Derived.Test.YthakgknamfopcaaLvWq
namespace Go.Lv
open Go
set_option linter.unusedVariables false
set_option linter.unusedSimpArgs false
set_option linter.unusedSectionVars false

/-! ### what is kept -/
/-- What was there and is not of the set W is there still; numbers of blocks only go up. -/
structure Ext (H H' : LH) (W : Nat → Prop) : Prop where
  next : H.next ≤ H'.next
  keep : ∀ i, i < H.next → ¬ W i → H'.get i = H.get i
def none' : Nat → Prop := fun _ => False
theorem Ext.refl (H : LH) (W : Nat → Prop) : Ext H H W := ⟨Nat.le_refl _, fun _ _ _ => rfl⟩
/-- One after the other; what is new after the first may be changed by the second. -/
theorem Ext.trans {H H' H'' : LH} {W W' : Nat → Prop} (h : Ext H H' W) (k : Ext H' H'' W') (hw : ∀ i, i < H.next → W' i → W i) : Ext H H'' W :=
  ⟨Nat.le_trans h.next k.next, fun i hi hn => by rw [k.keep i (Nat.lt_of_lt_of_le hi h.next) (fun x => hn (hw i hi x)), h.keep i hi hn]⟩
theorem Ext.mono {H H' : LH} {W W' : Nat → Prop} (h : Ext H H' W) (hw : ∀ i, i < H.next → W i → W' i) : Ext H H' W' := ⟨h.next, fun i hi hn => h.keep i hi (fun x => hn (hw i hi x))⟩
theorem Ext.new {H H' : LH} {W : Nat → Prop} (h : Ext H H' W) (o : LO) : Ext H (H'.new o) W := ⟨by have := h.next; simp; omega, fun i hi hn => by rw [LH.get_new, if_neg (by have := h.next; omega)]; exact h.keep i hi hn⟩
theorem Ext.put {H H' : LH} {W : Nat → Prop} (h : Ext H H' W) {j : Nat} (o : LO) (hj : j < H.next → W j) : Ext H (H'.put j o) W := ⟨by have := h.next; simp; omega, fun i hi hn => by
  rw [LH.get_put, if_neg (fun e => hn (by subst e; exact hj hi))]; exact h.keep i hi hn⟩
theorem Ext.del {H H' : LH} {W : Nat → Prop} (h : Ext H H' W) {j : Nat} (hj : j < H.next → W j) : Ext H (H'.del j) W := ⟨by have := h.next; simp; omega, fun i hi hn => by
  rw [LH.get_del, if_neg (fun e => hn (by subst e; exact hj hi))]; exact h.keep i hi hn⟩
theorem Ext.get {H H' : LH} {W : Nat → Prop} (h : Ext H H' W) {i : Nat} {o : LO} (hi : i < H.next) (hw : ¬ W i) (hg : H.get i = some o) : H'.get i = some o := by rw [h.keep i hi hw]; exact hg
theorem get_new_self {H : LH} {o : LO} : (H.new o).get H.next = some o := by rw [LH.get_new, if_pos rfl]
theorem get_new_old {H : LH} {o : LO} {i : Nat} (hi : i < H.next) : (H.new o).get i = H.get i := by rw [LH.get_new, if_neg (by omega)]
theorem get_put_self {H : LH} {o : LO} {i : Nat} : (H.put i o).get i = some o := by rw [LH.get_put, if_pos rfl]
theorem get_put_other {H : LH} {o : LO} {i j : Nat} (h : j ≠ i) : (H.put i o).get j = H.get j := by rw [LH.get_put, if_neg h]
theorem get_del_other {H : LH} {i j : Nat} (h : j ≠ i) : (H.del i).get j = H.get j := by rw [LH.get_del, if_neg h]

/-! ### slices that are read -/
def capOk (sz : Nat) : LCap → Nat → Prop
  | .ex c, n => n ≤ c
  | .op s, _ => s = sz
/-- A slice of n elements of so many cells; these are the cells. -/
def SV (H : LH) (sz : Nat) (v : LV) (n : Nat) (ls : List LV) : Prop :=
  (n = 0 ∧ ls = [] ∧ (v = .slice none 0 (.ex 0) ∨ v = .emp)) ∨
  ∃ i off c cs e own opn, v = .slice (some (i, off)) n c ∧ i < H.next ∧ H.get i = some (.cells cs e own opn) ∧ capOk sz c n ∧ off + n * sz ≤ cs.length ∧ (cs.drop off).take (n * sz) = ls

theorem SV.length {H : LH} {sz : Nat} {v : LV} {n : Nat} {ls : List LV} (h : SV H sz v n ls) : ls.length = n * sz := by
  rcases h with ⟨rfl, rfl, _⟩ | ⟨i, off, c, cs, e, own, opn, rfl, h1, h2, h3, h4, rfl⟩
  · simp
  · simp; omega
theorem SV.lt {H : LH} {sz : Nat} {v : LV} {n : Nat} {ls : List LV} (h : SV H sz v n ls) {i : Nat} (hb : v.bid? = some i) : i < H.next := by
  rcases h with ⟨rfl, rfl, h⟩ | ⟨i, off, c, cs, e, own, opn, rfl, h1, h2, h3, h4, rfl⟩
  · rcases h with rfl | rfl <;> simp [LV.bid?] at hb
  · simp [LV.bid?] at hb; subst hb; exact h1
theorem SV.nil (H : LH) (sz : Nat) : SV H sz (.slice none 0 (.ex 0)) 0 [] := .inl ⟨rfl, rfl, .inl rfl⟩
theorem SV.ext {H H' : LH} {W : Nat → Prop} {sz : Nat} {v : LV} {n : Nat} {ls : List LV} (h : SV H sz v n ls) (hE : Ext H H' W) (hw : ∀ i, v.bid? = some i → ¬ W i) : SV H' sz v n ls := by
  rcases h with ⟨rfl, rfl, h⟩ | ⟨i, off, c, cs, e, own, opn, rfl, h1, h2, h3, h4, rfl⟩
  · exact .inl ⟨rfl, rfl, h⟩
  · exact .inr ⟨i, off, c, cs, e, own, opn, rfl, Nat.lt_of_lt_of_le h1 hE.next, hE.get h1 (hw i rfl) h2, h3, h4, rfl⟩
theorem SV.len {H : LH} {sz : Nat} {v : LV} {n : Nat} {ls : List LV} (h : SV H sz v n ls) {P : Program} [Known] {G t e : Nat} {g : Kno} {x : Operand} [hu : TUnd P t (.slice e)] (hx : evk g G x = some v) : LK P G g H (.call ⟨.builtin .len, #[x], #[t]⟩) (.val (.int .i64 n) H) := by
  rcases h with ⟨rfl, rfl, h⟩ | ⟨i, off, c, cs, e, own, opn, rfl, h1, h2, h3, h4, rfl⟩
  · rcases h with rfl | rfl
    · exact LK.len hx
    · exact LK.len_emp hx
  · exact LK.len hx
theorem SV.lenL {H : LH} {sz : Nat} {v : LV} {n : Nat} {ls : List LV} (h : SV H sz v n ls) : lenL v = some n := by
  rcases h with ⟨rfl, rfl, h⟩ | ⟨i, off, c, cs, e, own, opn, rfl, h1, h2, h3, h4, rfl⟩
  · rcases h with rfl | rfl <;> rfl
  · rfl
theorem SV.firstL {H : LH} {sz : Nat} {v : LV} {n : Nat} {ls : List LV} (h : SV H sz v n ls) {m : Nat} (hm : m ≤ n) : firstL H sz m v = some (ls.take (m * sz)) := by
  rcases h with ⟨rfl, rfl, h⟩ | ⟨i, off, c, cs, e, own, opn, rfl, h1, h2, h3, h4, rfl⟩
  · obtain rfl : m = 0 := by omega
    rcases h with rfl | rfl <;> simp [Lv.firstL]
  · have : m * sz ≤ n * sz := Nat.mul_le_mul_right _ hm
    simp only [Lv.firstL, cellsAt, h2]
    rw [if_pos (by omega), List.take_take, Nat.min_eq_left this]
/-- An element of it is there to be read. -/
theorem SV.at {H : LH} {sz : Nat} {v : LV} {n : Nat} {ls : List LV} (h : SV H sz v n ls) {k : Nat} (hk : k < n) : ∃ i off c cs e own opn, v = .slice (some (i, off)) n c ∧ i < H.next ∧ H.get i = some (.cells cs e own opn) ∧
    off + k * sz + sz ≤ cs.length ∧ (∀ j, j < sz → cs[off + k * sz + j]? = ls[k * sz + j]?) ∧ (cs.drop (off + k * sz)).take sz = (ls.drop (k * sz)).take sz := by
  rcases h with ⟨rfl, rfl, h⟩ | ⟨i, off, c, cs, e, own, opn, rfl, h1, h2, h3, h4, rfl⟩
  · omega
  · have h5 : k * sz + sz ≤ n * sz := by
      rw [← Nat.succ_mul]; exact Nat.mul_le_mul_right _ hk
    refine ⟨i, off, c, cs, e, own, opn, rfl, h1, h2, by omega, fun j hj => ?_, ?_⟩
    · rw [List.getElem?_take, if_pos (by omega), List.getElem?_drop]
      congr 1; omega
    · rw [List.drop_take, List.take_take, List.drop_drop, Nat.min_eq_left (by omega)]
theorem SV.at1 {H : LH} {v : LV} {n : Nat} {ls : List LV} (h : SV H 1 v n ls) {k : Nat} (hk : k < n) : ∃ i off c cs e own opn, v = .slice (some (i, off)) n c ∧ i < H.next ∧ H.get i = some (.cells cs e own opn) ∧ cs[off + k * 1]? = ls[k]? := by
  obtain ⟨i, off, c, cs, e, own, opn, h1, h2, h3, h4, h5, _⟩ := h.at hk
  exact ⟨i, off, c, cs, e, own, opn, h1, h2, h3, by have := h5 0 (by omega); simpa using this⟩
/-- A part of it. -/
theorem SV.slice {P : Program} {H : LH} {t e sz : Nat} [hu : TUnd P t (.slice e)] [hs : TSize P e sz] (hsz : 0 < sz) {v : LV} {n : Nat} {ls : List LV} (h : SV H sz v n ls) {lo hi : Option LV} {l r : Nat} (hl : boundO lo 0 = some l) (hr : boundO hi n = some r) (h1 : l ≤ r) (h2 : r ≤ n) :
    ∃ v', sliceL P H t v lo hi none = some v' ∧ SV H sz v' (r - l) ((ls.drop (l * sz)).take ((r - l) * sz)) ∧ (∀ i, v'.bid? = some i → v.bid? = some i) := by
  rcases h with ⟨rfl, rfl, h⟩ | ⟨i, off, c, cs, el, own, opn, rfl, g1, g2, g3, g4, rfl⟩
  · obtain rfl : r = 0 := by omega
    obtain rfl : l = 0 := by omega
    rcases h with rfl | rfl
    · refine ⟨_, ?_, .inl ⟨rfl, by simp, .inl rfl⟩, fun i h => h⟩
      simp only [sliceL, hu.out, hs.out, hl, hr]
      simp [boundO]
    · refine ⟨_, ?_, .inl ⟨rfl, by simp, .inr rfl⟩, fun i h => h⟩
      simp only [sliceL, hu.out, hs.out, hl, hr]
  · have g5 : l * sz ≤ r * sz := Nat.mul_le_mul_right _ h1
    have g6 : r * sz ≤ n * sz := Nat.mul_le_mul_right _ h2
    have g7 : (r - l) * sz = r * sz - l * sz := Nat.sub_mul _ _ _
    have cells : ((((cs.drop off).take (n * sz)).drop (l * sz)).take ((r - l) * sz)) = (cs.drop (off + l * sz)).take ((r - l) * sz) := by
      rw [List.drop_take, List.take_take, List.drop_drop, Nat.min_eq_left (by omega)]
    cases c with
    | ex c =>
      have g3 : n ≤ c := g3
      refine ⟨.slice (some (i, if c = l then off else off + l * sz)) (r - l) (.ex (c - l)), ?_, ?_, fun j hj => hj⟩
      · simp only [sliceL, hu.out, hs.out, hl, hr, knownRoom]
        rw [if_neg (by omega)]
      · refine .inr ⟨i, _, _, cs, el, own, opn, rfl, g1, g2, show r - l ≤ c - l by omega, ?_, ?_⟩
        · split
          · have : r - l = 0 := by omega
            rw [this]; omega
          · omega
        · rw [cells]
          split
          · have : r - l = 0 := by omega
            rw [this]; simp
          · rfl
    | op s =>
      have g3 : s = sz := g3
      subst g3
      have hroom : knownRoom H i off (.op s) = some ((cs.length - off) / s) := by
        simp only [knownRoom, g2]
        rw [if_pos (by omega)]
      have hrm : n ≤ (cs.length - off) / s := by
        rw [Nat.le_div_iff_mul_le hsz]; omega
      by_cases hc : l < (cs.length - off) / s ∨ l = 0
      · refine ⟨.slice (some (i, off + l * s)) (r - l) (.op s), ?_, ?_, fun j hj => hj⟩
        · simp only [sliceL, hu.out, hs.out, hl, hr, hroom]
          rw [if_neg (by omega), if_neg (by simp), if_pos hc]
        · exact .inr ⟨i, _, _, cs, el, own, opn, rfl, g1, g2, rfl, by omega, by rw [cells]⟩
      · refine ⟨.emp, ?_, ?_, fun j hj => by simp [LV.bid?] at hj⟩
        · simp only [sliceL, hu.out, hs.out, hl, hr, hroom]
          rw [if_neg (by omega), if_neg (by simp), if_neg hc]
        · have : r - l = 0 := by omega
          rw [this]
          exact .inl ⟨rfl, by simp, .inr rfl⟩
theorem SV.new {H : LH} {cs : List LV} {e c n sz : Nat} {own opn : Bool} (hc : n ≤ c) (hl : n * sz ≤ cs.length) : SV (H.new (.cells cs e own opn)) sz (.slice (some (H.next, 0)) n (.ex c)) n (cs.take (n * sz)) :=
  .inr ⟨_, _, _, cs, e, own, opn, rfl, by simp, get_new_self, hc, by omega, by simp⟩

theorem SV.one {H : LH} {sz : Nat} {v : LV} {n : Nat} {ls : List LV} (h : SV H sz v n ls) : oneCell v = true := by
  rcases h with ⟨_, _, rfl | rfl⟩ | ⟨i, off, c, cs, e, own, opn, rfl, _⟩ <;> rfl
theorem SV.cells {H : LH} {sz : Nat} {v : LV} {n : Nat} {ls : List LV} (h : SV H sz v n ls) : v.cells = [v] := by
  rcases h with ⟨_, _, rfl | rfl⟩ | ⟨i, off, c, cs, e, own, opn, rfl, _⟩ <;> rfl
theorem splice_one {cs : List LV} {off : Nat} {x : LV} (h : off < cs.length) : splice cs off [x] = cs.set off x := by
  unfold splice
  rw [List.set_eq_take_append_cons_drop, if_pos h]
  simp
/-- One cell is stored. -/
theorem LK.store1 {P : Program} [Known] {G : Nat} {g : Kno} {H : LH} {t i off : Nat} {a x : Operand} {cs : List LV} {e : Nat} {opn : Bool} {v : LV} [hs : TSize P t 1] (ha : evk g G a = some (.ptr (some (i, off)))) (hx : evk g G x = some v) (hi : H.get i = some (.cells cs e true opn))
    (hv : v.cells = [v]) (hc : oneCell v = true) (hl : off < cs.length) : LK P G g H (.store t a x) (.skip (H.put i (.cells (cs.set off v) e true opn))) := by
  have := LK.store (P := P) (t := t) (e := e) (n := 1) ha hx hi (by rw [hv]; rfl) (by rw [hv]; simp [hc]) (by omega)
  rw [hv, splice_one hl] at this
  exact this

/-! ### slices of one's own that are grown -/
/-- A slice of one's own, to be grown: nothing, or a whole block that is grown. -/
def Own (H : LH) (sz e : Nat) (v : LV) (n : Nat) (ls : List LV) : Prop :=
  (n = 0 ∧ ls = [] ∧ v = .slice none 0 (.ex 0)) ∨ (∃ i, i < H.next ∧ v = .slice (some (i, 0)) n (.op sz) ∧ H.get i = some (.cells ls e true true) ∧ ls.length = n * sz) ∨
    ∃ i opn, i < H.next ∧ v = .slice (some (i, 0)) n (.ex n) ∧ H.get i = some (.cells ls e true opn) ∧ ls.length = n * sz
theorem Own.nil (H : LH) (sz e : Nat) : Own H sz e (.slice none 0 (.ex 0)) 0 [] := .inl ⟨rfl, rfl, rfl⟩
theorem Own.full {H : LH} {sz e n : Nat} {ls : List LV} (h : ls.length = n * sz) : Own (H.new (.cells ls e true false)) sz e (.slice (some (H.next, 0)) n (.ex n)) n ls := .inr (.inr ⟨_, _, by simp, rfl, get_new_self, h⟩)
theorem Own.sv {H : LH} {sz e : Nat} {v : LV} {n : Nat} {ls : List LV} (h : Own H sz e v n ls) : SV H sz v n ls := by
  rcases h with ⟨rfl, rfl, rfl⟩ | ⟨i, hi, rfl, hg, hl⟩ | ⟨i, opn, hi, rfl, hg, hl⟩
  · exact SV.nil _ _
  · exact .inr ⟨i, 0, _, ls, e, true, true, rfl, hi, hg, rfl, by omega, by simp [← hl]⟩
  · exact .inr ⟨i, 0, _, ls, e, true, _, rfl, hi, hg, Nat.le_refl _, by omega, by simp [← hl]⟩
theorem Own.lt {H : LH} {sz e : Nat} {v : LV} {n : Nat} {ls : List LV} (h : Own H sz e v n ls) {i : Nat} (hb : v.bid? = some i) : i < H.next := h.sv.lt hb
theorem Own.length {H : LH} {sz e : Nat} {v : LV} {n : Nat} {ls : List LV} (h : Own H sz e v n ls) : ls.length = n * sz := h.sv.length
theorem Own.ext {H H' : LH} {W : Nat → Prop} {sz e : Nat} {v : LV} {n : Nat} {ls : List LV} (h : Own H sz e v n ls) (hE : Ext H H' W) (hw : ∀ i, v.bid? = some i → ¬ W i) : Own H' sz e v n ls := by
  rcases h with ⟨rfl, rfl, rfl⟩ | ⟨i, hi, rfl, hg, hl⟩ | ⟨i, opn, hi, rfl, hg, hl⟩
  · exact .inl ⟨rfl, rfl, rfl⟩
  · exact .inr (.inl ⟨i, Nat.lt_of_lt_of_le hi hE.next, rfl, hE.get hi (hw i rfl) hg, hl⟩)
  · exact .inr (.inr ⟨i, opn, Nat.lt_of_lt_of_le hi hE.next, rfl, hE.get hi (hw i rfl) hg, hl⟩)
theorem Own.new {H : LH} {sz e : Nat} {v : LV} {n : Nat} {ls : List LV} (h : Own H sz e v n ls) (o : LO) : Own (H.new o) sz e v n ls := h.ext (W := none') ((Ext.refl H _).new o) (fun _ _ h => h)
theorem SV.newo {H : LH} {sz : Nat} {v : LV} {n : Nat} {ls : List LV} (h : SV H sz v n ls) (o : LO) : SV (H.new o) sz v n ls := h.ext (W := none') ((Ext.refl H _).new o) (fun _ _ h => h)

/-- What is appended to a slice of one's own. -/
theorem Own.appendL {P : Program} {e sz by_ : Nat} {z : LV} [hs : TSize P e sz] [hb : TBytes P e by_] [hz : TZero P e z] (hsz : 0 < sz) (hby : 0 < by_) (hzc : z.cells.length = sz) {H : LH} {v : LV} {n : Nat} {ls : List LV} (h : Own H sz e v n ls)
    {m : Nat} {xs : List LV} (hx : xs.length = m * sz) (hg : (n + m) * by_ ≤ growMax) : ∃ v' H', Lv.appendL P H e v m xs = some (v', H') ∧ Own H' sz e v' (n + m) (ls ++ xs) ∧ Ext H H' (fun i => v.bid? = some i) ∧ (∀ i, v'.bid? = some i → v.bid? = some i ∨ H.next ≤ i) := by
  rcases h with ⟨rfl, rfl, rfl⟩ | ⟨i, hi, rfl, hgt, hl⟩ | ⟨i, opn, hi, rfl, hgt, hl⟩
  · by_cases hm : m = 0
    · subst hm
      obtain rfl : xs = [] := List.length_eq_zero_iff.1 (by simpa using hx)
      exact ⟨_, H, by simp only [Lv.appendL, hs.out, hb.out, hz.out]; rw [if_neg (by omega), if_neg (by omega), if_neg (by omega), if_pos trivial], .inl ⟨rfl, rfl, rfl⟩, Ext.refl _ _, fun i h => .inl h⟩
    · refine ⟨.slice (some (H.next, 0)) m (.op sz), H.new (.cells xs e true true), ?_, .inr (.inl ⟨H.next, by simp, by simp, get_new_self, by simpa using hx⟩), (Ext.refl _ _).new _, fun i h => .inr ?_⟩
      · simp only [Lv.appendL, hs.out, hb.out, hz.out]
        rw [if_neg (by omega), if_neg (by omega), if_neg (by omega), if_neg hm, if_pos (by simpa using hg)]
      · simp [LV.bid?] at h; omega
  · by_cases hm : m = 0
    · subst hm
      obtain rfl : xs = [] := List.length_eq_zero_iff.1 (by simpa using hx)
      refine ⟨.slice (some (i, 0)) n (.op sz), H, ?_, .inr (.inl ⟨i, hi, rfl, by simpa using hgt, by simpa using hl⟩), Ext.refl _ _, fun i h => .inl h⟩
      simp only [Lv.appendL, hs.out, hb.out, hz.out, hgt]
      rw [if_neg (by omega), if_neg (by omega), if_neg (by omega), if_neg (by simp), if_neg (by simp), if_pos trivial, if_pos (by omega)]
    · refine ⟨.slice (some (H.next, 0)) (n + m) (.op sz), (H.del i).new (.cells (ls ++ xs) e true true), ?_, .inr (.inl ⟨H.next, by simp, rfl, get_new_self, ?_⟩), ?_, fun j h => .inr ?_⟩
      · have : 0 < m * sz := Nat.mul_pos (by omega) hsz
        simp only [Lv.appendL, hs.out, hb.out, hz.out, hgt]
        rw [if_neg (by omega), if_neg (by omega), if_neg (by omega), if_neg (by simp), if_neg (by simp), if_neg hm, if_neg (by rw [Nat.add_mul]; omega), if_pos ⟨hg, by omega⟩]
        rw [← hl, List.drop_zero, List.take_length]
      · rw [List.length_append, hl, hx, Nat.add_mul]
      · exact ((Ext.refl H (fun j => (LV.slice (some (i, 0)) n (.op sz)).bid? = some j)).del (fun _ => rfl)).new _
      · simp [LV.bid?] at h; omega
  · by_cases hm : m = 0
    · subst hm
      obtain rfl : xs = [] := List.length_eq_zero_iff.1 (by simpa using hx)
      refine ⟨.slice (some (i, 0)) n (.ex n), H, ?_, .inr (.inr ⟨i, opn, hi, rfl, by simpa using hgt, by simpa using hl⟩), Ext.refl _ _, fun i h => .inl h⟩
      simp only [Lv.appendL, hs.out, hb.out, hz.out]
      rw [if_neg (by omega), if_neg (by omega), if_neg (by omega), if_pos (by omega), if_pos trivial]
    · refine ⟨.slice (some (H.next, 0)) (n + m) (.op sz), H.new (.cells (ls ++ xs) e true true), ?_, .inr (.inl ⟨H.next, by simp, rfl, get_new_self, by rw [List.length_append, hl, hx, Nat.add_mul]⟩), (Ext.refl _ _).new _, fun j h => .inr (by simp [LV.bid?] at h; omega)⟩
      simp only [Lv.appendL, hs.out, hb.out, hz.out]
      rw [if_neg (by omega), if_neg (by omega), if_neg (by omega), if_neg (by omega), if_pos hg]
      simp only [cellsAt, hgt]
      rw [if_pos (by omega), ← hl, List.drop_zero, List.take_length]
      rfl

theorem append_out {P : Program} {H H' : LH} {t t' e e' : Nat} {v v' x : LV} {m sz : Nat} {xs : List LV} [hu : TUnd P t (.slice e)] [hu' : TUnd P t' (.slice e')] [hs : TSize P e sz] (hx : SV H sz x m xs) (hone : xs.all oneCell = true) (ha : Lv.appendL P H e v m xs = some (v', H')) :
    builtinL P H .append [t, t'] [v, x] = some (.val v' H') := by
  have he : sliceElem P t = some e := by simp only [sliceElem, hu.out]
  simp only [builtinL, he, hu'.out, hs.out, hx.lenL, hx.firstL (Nat.le_refl _), Option.bind_some]
  rw [← hx.length, List.take_length, hone, if_pos rfl, ha]
  rfl
/-- append to a slice of one's own. -/
theorem Own.append {P : Program} {t t' e e' sz by_ : Nat} {z : LV} [hu : TUnd P t (.slice e)] [hu' : TUnd P t' (.slice e')] [hs : TSize P e sz] [hb : TBytes P e by_] [hz : TZero P e z] (hsz : 0 < sz) (hby : 0 < by_) (hzc : z.cells.length = sz) {H : LH} {v : LV} {n : Nat} {ls : List LV} (h : Own H sz e v n ls)
    {x : LV} {m : Nat} {xs : List LV} (hx : SV H sz x m xs) (hone : xs.all oneCell = true) (hg : (n + m) * by_ ≤ growMax) :
    ∃ v' H', builtinL P H .append [t, t'] [v, x] = some (.val v' H') ∧ Own H' sz e v' (n + m) (ls ++ xs) ∧ Ext H H' (fun i => v.bid? = some i) ∧ (∀ i, v'.bid? = some i → v.bid? = some i ∨ H.next ≤ i) := by
  obtain ⟨v', H', h1, h2, h3, h4⟩ := h.appendL (P := P) hsz hby hzc hx.length hg
  exact ⟨v', H', append_out (t := t) (t' := t') hx hone h1, h2, h3, h4⟩
/-- append to a slice whose capacity is its length: into memory of its own. -/
theorem SV.append_full {P : Program} {t t' e e' sz by_ : Nat} {z : LV} [hu : TUnd P t (.slice e)] [hu' : TUnd P t' (.slice e')] [hs : TSize P e sz] [hb : TBytes P e by_] [hz : TZero P e z] (hsz : 0 < sz) (hby : 0 < by_) (hzc : z.cells.length = sz) {H : LH} {i off n : Nat} {ls : List LV} (h : SV H sz (.slice (some (i, off)) n (.ex n)) n ls)
    {x : LV} {m : Nat} {xs : List LV} (hx : SV H sz x m xs) (hone : xs.all oneCell = true) (hm : 0 < m) (hg : (n + m) * by_ ≤ growMax) :
    ∃ v' H', builtinL P H .append [t, t'] [.slice (some (i, off)) n (.ex n), x] = some (.val v' H') ∧ Own H' sz e v' (n + m) (ls ++ xs) ∧ Ext H H' none' ∧ (∀ i, v'.bid? = some i → H.next ≤ i) := by
  have hxl := hx.length
  rcases id h with ⟨_, _, h⟩ | ⟨i', off', c, cs, el, own, opn, hv, g1, g2, g3, g4, g5⟩
  · rcases h with h | h <;> cases h
  · simp only [LV.slice.injEq, Option.some.injEq, Prod.mk.injEq] at hv
    obtain ⟨⟨rfl, rfl⟩, _, _⟩ := hv
    refine ⟨_, _, append_out (t := t) (t' := t') (v' := .slice (some (H.next, 0)) (n + m) (.op sz)) (H' := H.new (.cells (ls ++ xs) e true true)) hx hone ?_, .inr (.inl ⟨H.next, by simp, rfl, get_new_self, by rw [List.length_append, h.length, hxl, Nat.add_mul]⟩), (Ext.refl _ _).new _, fun j hj => by simp [LV.bid?] at hj; omega⟩
    simp only [Lv.appendL, hs.out, hb.out, hz.out]
    rw [if_neg (by omega), if_neg (by omega), if_neg (by omega), if_neg (by omega), if_pos hg]
    simp only [cellsAt, g2]
    rw [if_pos (by omega), g5]
    rfl

/-! ### numbers that fit -/
theorem wrap_i64 {x : Int} (h1 : -9223372036854775808 ≤ x) (h2 : x < 9223372036854775808) : IntKind.i64.wrap x = x := by
  unfold IntKind.wrap
  simp [IntKind.bits, IntKind.signed]; omega
theorem wrap_u64 {x : Int} (h1 : 0 ≤ x) (h2 : x < 18446744073709551616) : IntKind.u64.wrap x = x := by
  unfold IntKind.wrap
  simp [IntKind.bits, IntKind.signed]; omega
theorem wrap_u32 {x : Int} (h1 : 0 ≤ x) (h2 : x < 4294967296) : IntKind.u32.wrap x = x := by
  unfold IntKind.wrap
  simp [IntKind.bits, IntKind.signed]; omega
theorem wrap_u8 {x : Int} (h1 : 0 ≤ x) (h2 : x < 256) : IntKind.u8.wrap x = x := by
  unfold IntKind.wrap
  simp [IntKind.bits, IntKind.signed]; omega
theorem wrap_u8_mod (x : Int) : IntKind.u8.wrap x = x % 256 := by
  unfold IntKind.wrap
  simp [IntKind.bits, IntKind.signed]
theorem wrap_u32_mod (x : Int) : IntKind.u32.wrap x = x % 4294967296 := by
  unfold IntKind.wrap
  simp [IntKind.bits, IntKind.signed]
theorem wrap_u64_mod (x : Int) : IntKind.u64.wrap x = x % 18446744073709551616 := by
  unfold IntKind.wrap
  simp [IntKind.bits, IntKind.signed]
theorem natOf_of {k : IntKind} {x : Int} {j : Nat} (h : x = (j : Int)) : natOf (.int k x) = some j := by subst h; simp [natOf]
theorem bytesL_length (bs : List UInt8) : (bytesL bs).length = bs.length := by simp [bytesL]
theorem bytesL_append (a b : List UInt8) : bytesL (a ++ b) = bytesL a ++ bytesL b := by simp [bytesL]
theorem bytesL_one (bs : List UInt8) : (bytesL bs).all oneCell = true := by simp [bytesL, oneCell]
theorem bytesL_drop (n : Nat) (bs : List UInt8) : (bytesL bs).drop n = bytesL (bs.drop n) := by simp [bytesL]
theorem bytesL_take (n : Nat) (bs : List UInt8) : (bytesL bs).take n = bytesL (bs.take n) := by simp [bytesL]
theorem bytesL_get {bs : List UInt8} {k : Nat} (h : k < bs.length) : (bytesL bs)[k]? = some (.int .u8 (bs.getD k 0).toNat) := by
  simp [bytesL, List.getD, h]
end Go.Lv
