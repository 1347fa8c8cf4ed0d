/- Lv: what a logical value, a logical heap, a frame's slots denote in the model's world; lemmas on these relations, proved without conditions beyond those stated. -/
import Derived.Test.YthakgknamfopcaaLvRun
import Derived.Below
import Derived.RangeFuncRecord
namespace Go.Lv
open Go
set_option linter.unusedVariables false
set_option linter.unusedSimpArgs false

/-! ### tables -/
theorem Tr.get_leaf {α : Type} (k : Nat) : (Tr.leaf : Tr α).get k = none := rfl

theorem Tr.get_val {α : Type} (t : Tr α) : t.get 0 = t.val := by cases t <;> simp [Tr.get, Tr.val]
theorem Tr.get_left {α : Type} (t : Tr α) {k : Nat} (h : k ≠ 0) (h2 : k % 2 = 1) : t.get k = t.left.get (k / 2) := by
  cases t <;> simp [Tr.get, Tr.left, h, h2]
theorem Tr.get_right {α : Type} (t : Tr α) {k : Nat} (h : k ≠ 0) (h2 : ¬ k % 2 = 1) : t.get k = t.right.get (k / 2 - 1) := by
  cases t <;> simp [Tr.get, Tr.right, h, h2]

theorem Tr.get_setF {α : Type} (v : Option α) : ∀ (f : Nat) (t : Tr α) (k j : Nat), k < f → (Tr.setF f t k v).get j = if j = k then v else t.get j := by
  intro f
  induction f with
  | zero => intro t k j h; omega
  | succ f ih =>
    intro t k j h
    unfold Tr.setF
    by_cases hk : k = 0
    · subst hk
      simp only [if_true]
      by_cases hj : j = 0
      · simp [hj, Tr.get]
      · rw [if_neg hj]
        by_cases h2 : j % 2 = 1
        · rw [Tr.get_left _ hj h2, Tr.get_left t hj h2]; rfl
        · rw [Tr.get_right _ hj h2, Tr.get_right t hj h2]; rfl
    · rw [if_neg hk]
      by_cases hk2 : k % 2 = 1
      · rw [if_pos hk2]
        by_cases hj : j = 0
        · subst hj; rw [if_neg (by omega), Tr.get_val, Tr.get_val]; rfl
        · by_cases h2 : j % 2 = 1
          · rw [Tr.get_left _ hj h2, Tr.get_left t hj h2]
            simp only [Tr.left]
            rw [ih _ _ _ (by omega)]
            by_cases e : j = k
            · subst e; simp
            · rw [if_neg e, if_neg (by omega)]
          · rw [Tr.get_right _ hj h2, Tr.get_right t hj h2, if_neg (by intro e; subst e; exact h2 hk2)]; rfl
      · rw [if_neg hk2]
        by_cases hj : j = 0
        · subst hj; rw [if_neg (by omega), Tr.get_val, Tr.get_val]; rfl
        · by_cases h2 : j % 2 = 1
          · rw [Tr.get_left _ hj h2, Tr.get_left t hj h2, if_neg (by intro e; subst e; exact hk2 h2)]; rfl
          · rw [Tr.get_right _ hj h2, Tr.get_right t hj h2]
            simp only [Tr.right]
            rw [ih _ _ _ (by omega)]
            by_cases e : j = k
            · subst e; simp
            · rw [if_neg e, if_neg (by omega)]

@[simp] theorem Tr.get_set {α : Type} (t : Tr α) (k j : Nat) (v : Option α) : (t.set k v).get j = if j = k then v else t.get j :=
  Tr.get_setF v (k + 1) t k j (by omega)

theorem LH.get_put (H : LH) (i j : Nat) (o : LO) : (H.put i o).get j = if j = i then some o else H.get j := by simp [LH.get, LH.put]
theorem LH.get_del (H : LH) (i j : Nat) : (H.del i).get j = if j = i then none else H.get j := by simp [LH.get, LH.del]
theorem LH.get_new (H : LH) (o : LO) (j : Nat) : (H.new o).get j = if j = H.next then some o else H.get j := by simp [LH.get, LH.new]
@[simp] theorem LH.next_put (H : LH) (i : Nat) (o : LO) : (H.put i o).next = H.next := rfl
@[simp] theorem LH.next_del (H : LH) (i : Nat) : (H.del i).next = H.next := rfl
@[simp] theorem LH.next_new (H : LH) (o : LO) : (H.new o).next = H.next + 1 := rfl

/-! ### values -/
/-- Where a logical block lies: the block, the place of its first cell, the end of its room. -/
abbrev Ren := Nat → Option (Nat × Nat × Nat)

mutual
def DV (R : Ren) : LV → Value → Prop
  | .bool b, v => v = .bool b
  | .int k n, v => v = .int k n
  | .str s, v => v = .string ⟨s.toArray⟩
  | .ptr none, v => v = .pointer none
  | .ptr (some (i, o)), v => ∃ b d e, R i = some (b, d, e) ∧ v = .pointer (some ⟨b, d + o, none⟩)
  | .slice none n c, v => v = .slice none 0 0 ∧ n = 0 ∧ c = .ex 0
  | .slice (some (i, o)) n (.ex c), v => ∃ b d e, R i = some (b, d, e) ∧ v = .slice (some ⟨b, d + o, none⟩) n c
  | .slice (some (i, o)) n (.op sz), v => ∃ b d e c, R i = some (b, d, e) ∧ d + o + c * sz = e ∧ v = .slice (some ⟨b, d + o, none⟩) n c
  | .emp, v => ∃ a c, v = .slice (some a) 0 c
  | .map none, v => v = .map none
  | .map (some i), v => ∃ b d e, R i = some (b, d, e) ∧ v = .map (some b)
  | .func fn f c, v => ∃ f' c' : Array Value, v = .func fn f' c' ∧ DVs R f f'.toList ∧ DVs R c c'.toList
  | .yield l, v => ∃ b d e, R l = some (b, d, e) ∧ v = .func (.yield b) #[] #[]
  | .nilFunc, v => v = .nilFunc
  | .iface t x, v => ∃ u, v = .iface t u ∧ DV R x u
  | .nilIface, v => v = .nilIface
  | .agg cs, v => ∃ a : Array Value, v = .agg a ∧ DVs R cs a.toList
  | .tuple vs, v => ∃ a : Array Value, v = .tuple a ∧ DVs R vs a.toList
def DVs (R : Ren) : List LV → List Value → Prop
  | [], l => l = []
  | x :: xs, l => ∃ v vs, l = v :: vs ∧ DV R x v ∧ DVs R xs vs
end

def RLe (R R' : Ren) : Prop := ∀ i x, R i = some x → R' i = some x
theorem RLe.refl (R : Ren) : RLe R R := fun _ _ h => h
theorem RLe.trans {R R' R'' : Ren} (h : RLe R R') (h' : RLe R' R'') : RLe R R'' := fun i x k => h' i x (h i x k)

mutual
theorem DV_mono {R R' : Ren} (h : RLe R R') : ∀ (x : LV) (v : Value), DV R x v → DV R' x v
  | .bool _, _, k => by simpa [DV] using k
  | .int _ _, _, k => by simpa [DV] using k
  | .str _, _, k => by simpa [DV] using k
  | .ptr none, _, k => by simpa [DV] using k
  | .ptr (some (i, o)), _, k => by
    simp only [DV] at k ⊢
    obtain ⟨b, d, e, hr, hv⟩ := k
    exact ⟨b, d, e, h _ _ hr, hv⟩
  | .slice none _ _, _, k => by simpa [DV] using k
  | .slice (some (i, o)) n (.ex c), _, k => by
    simp only [DV] at k ⊢
    obtain ⟨b, d, e, hr, hv⟩ := k
    exact ⟨b, d, e, h _ _ hr, hv⟩
  | .slice (some (i, o)) n (.op sz), _, k => by
    simp only [DV] at k ⊢
    obtain ⟨b, d, e, c, hr, hc, hv⟩ := k
    exact ⟨b, d, e, c, h _ _ hr, hc, hv⟩
  | .emp, _, k => by simpa [DV] using k
  | .map none, _, k => by simpa [DV] using k
  | .map (some i), _, k => by
    simp only [DV] at k ⊢
    obtain ⟨b, d, e, hr, hv⟩ := k
    exact ⟨b, d, e, h _ _ hr, hv⟩
  | .func fn f c, _, k => by
    simp only [DV] at k ⊢
    obtain ⟨f', c', hv, h1, h2⟩ := k
    exact ⟨f', c', hv, DVs_mono h _ _ h1, DVs_mono h _ _ h2⟩
  | .yield l, _, k => by
    simp only [DV] at k ⊢
    obtain ⟨b, d, e, hr, hv⟩ := k
    exact ⟨b, d, e, h _ _ hr, hv⟩
  | .nilFunc, _, k => by simpa [DV] using k
  | .iface t x, _, k => by
    simp only [DV] at k ⊢
    obtain ⟨u, hv, hx⟩ := k
    exact ⟨u, hv, DV_mono h _ _ hx⟩
  | .nilIface, _, k => by simpa [DV] using k
  | .agg cs, _, k => by
    simp only [DV] at k ⊢
    obtain ⟨a, hv, hx⟩ := k
    exact ⟨a, hv, DVs_mono h _ _ hx⟩
  | .tuple cs, _, k => by
    simp only [DV] at k ⊢
    obtain ⟨a, hv, hx⟩ := k
    exact ⟨a, hv, DVs_mono h _ _ hx⟩
theorem DVs_mono {R R' : Ren} (h : RLe R R') : ∀ (x : List LV) (v : List Value), DVs R x v → DVs R' x v
  | [], _, k => by simpa [DVs] using k
  | x :: xs, _, k => by
    simp only [DVs] at k ⊢
    obtain ⟨v, vs, hl, h1, h2⟩ := k
    exact ⟨v, vs, hl, DV_mono h _ _ h1, DVs_mono h _ _ h2⟩
end

theorem DVs_length {R : Ren} : ∀ {xs : List LV} {vs : List Value}, DVs R xs vs → vs.length = xs.length
  | [], _, h => by simp [DVs] at h; simp [h]
  | x :: xs, _, h => by
    simp only [DVs] at h
    obtain ⟨v, vs, rfl, _, h2⟩ := h
    simp [DVs_length h2]

theorem DVs_get {R : Ren} : ∀ {xs : List LV} {vs : List Value}, DVs R xs vs → ∀ (i : Nat) x, xs[i]? = some x → ∃ v, vs[i]? = some v ∧ DV R x v
  | [], _, _, i, x, hx => by simp at hx
  | y :: xs, _, h, i, x, hx => by
    simp only [DVs] at h
    obtain ⟨v, vs, rfl, h1, h2⟩ := h
    cases i with
    | zero => simp at hx; subst hx; exact ⟨v, by simp, h1⟩
    | succ i => simp at hx; obtain ⟨u, hu, hd⟩ := DVs_get h2 i x hx; exact ⟨u, by simpa using hu, hd⟩

theorem DVs_of_get {R : Ren} : ∀ (xs : List LV) (vs : List Value), vs.length = xs.length →
    (∀ (i : Nat) x, xs[i]? = some x → ∃ v, vs[i]? = some v ∧ DV R x v) → DVs R xs vs
  | [], vs, hl, _ => by simp at hl; simp [DVs, hl]
  | x :: xs, [], hl, _ => by simp at hl
  | x :: xs, v :: vs, hl, h => by
    simp only [DVs]
    obtain ⟨u, hu, hd⟩ := h 0 x (by simp)
    simp at hu; subst hu
    exact ⟨v, vs, rfl, hd, DVs_of_get xs vs (by simpa using hl) fun i y hy => by
      obtain ⟨u, hu, hd⟩ := h (i + 1) y (by simpa using hy)
      exact ⟨u, by simpa using hu, hd⟩⟩

theorem DVs_append {R : Ren} : ∀ {xs ys : List LV} {vs us : List Value}, DVs R xs vs → DVs R ys us → DVs R (xs ++ ys) (vs ++ us)
  | [], ys, vs, us, h, k => by simp [DVs] at h; subst h; simpa using k
  | x :: xs, ys, _, us, h, k => by
    simp only [DVs] at h
    obtain ⟨v, vs, rfl, h1, h2⟩ := h
    simp only [List.cons_append, DVs]
    exact ⟨v, _, rfl, h1, DVs_append h2 k⟩

theorem DVs_take {R : Ren} (n : Nat) : ∀ {xs : List LV} {vs : List Value}, DVs R xs vs → DVs R (xs.take n) (vs.take n) := by
  intro xs vs h
  refine DVs_of_get _ _ (by simp [DVs_length h]) fun i x hx => ?_
  rw [List.getElem?_take] at hx ⊢
  split at hx
  · rename_i hi; rw [if_pos hi]; exact DVs_get h i x hx
  · cases hx

theorem DVs_drop {R : Ren} (n : Nat) : ∀ {xs : List LV} {vs : List Value}, DVs R xs vs → DVs R (xs.drop n) (vs.drop n) := by
  intro xs vs h
  refine DVs_of_get _ _ (by simp [DVs_length h]) fun i x hx => ?_
  rw [List.getElem?_drop] at hx ⊢
  exact DVs_get h _ x hx

theorem DVs_nil {R : Ren} : DVs R [] [] := by simp [DVs]
theorem DVs_cons {R : Ren} {x : LV} {v : Value} {xs : List LV} {vs : List Value} (h : DV R x v) (k : DVs R xs vs) : DVs R (x :: xs) (v :: vs) := by
  simp only [DVs]; exact ⟨v, vs, rfl, h, k⟩
theorem DVs_one {R : Ren} {x : LV} {v : Value} (h : DV R x v) : DVs R [x] [v] := DVs_cons h DVs_nil

/-- Of one cell is what denotes a value of one cell. -/
theorem oneCell_iff {R : Ren} {x : LV} {v : Value} (h : DV R x v) : (match v with | .agg _ | .tuple _ => false | _ => true) = oneCell x := by
  cases x with
  | ptr a => cases a with
    | none => simp [DV] at h; subst h; rfl
    | some p => obtain ⟨i, o⟩ := p; simp only [DV] at h; obtain ⟨b, d, e, _, rfl⟩ := h; rfl
  | slice a n c => cases a with
    | none => simp only [DV] at h; obtain ⟨rfl, _⟩ := h; rfl
    | some p =>
      obtain ⟨i, o⟩ := p
      cases c with
      | ex c => simp only [DV] at h; obtain ⟨b, d, e, _, rfl⟩ := h; rfl
      | op c => simp only [DV] at h; obtain ⟨b, d, e, c', _, _, rfl⟩ := h; rfl
  | map r => cases r with
    | none => simp [DV] at h; subst h; rfl
    | some i => simp only [DV] at h; obtain ⟨b, d, e, _, rfl⟩ := h; rfl
  | func fn f c => simp only [DV] at h; obtain ⟨f', c', rfl, _⟩ := h; rfl
  | yield l => simp only [DV] at h; obtain ⟨b, d, e, _, rfl⟩ := h; rfl
  | iface t x => simp only [DV] at h; obtain ⟨u, rfl, _⟩ := h; rfl
  | agg cs => simp only [DV] at h; obtain ⟨a, rfl, _⟩ := h; rfl
  | tuple cs => simp only [DV] at h; obtain ⟨a, rfl, _⟩ := h; rfl
  | emp => simp only [DV] at h; obtain ⟨a, c, rfl⟩ := h; rfl
  | bool b => simp [DV] at h; subst h; rfl
  | int k n => simp [DV] at h; subst h; rfl
  | str s => simp [DV] at h; subst h; rfl
  | nilFunc => simp [DV] at h; subst h; rfl
  | nilIface => simp [DV] at h; subst h; rfl

/-- The cells of a value denote the cells of what it denotes. -/
theorem DV_cells {R : Ren} {x : LV} {v : Value} (h : DV R x v) : DVs R x.cells v.cells.toList := by
  cases x with
  | agg cs => simp only [DV] at h; obtain ⟨a, rfl, h⟩ := h; exact h
  | ptr a => cases a with
    | none => have := h; simp [DV] at h; subst h; exact DVs_one this
    | some p => have k := h; obtain ⟨i, o⟩ := p; simp only [DV] at h; obtain ⟨b, d, e, _, rfl⟩ := h; exact DVs_one k
  | slice a n c => cases a with
    | none => have := h; simp only [DV] at h; obtain ⟨rfl, _⟩ := h; exact DVs_one this
    | some p =>
      have k := h
      obtain ⟨i, o⟩ := p
      cases c with
      | ex c => simp only [DV] at h; obtain ⟨b, d, e, _, rfl⟩ := h; exact DVs_one k
      | op c => simp only [DV] at h; obtain ⟨b, d, e, c', _, _, rfl⟩ := h; exact DVs_one k
  | map r => cases r with
    | none => have := h; simp [DV] at h; subst h; exact DVs_one this
    | some i => have k := h; simp only [DV] at h; obtain ⟨b, d, e, _, rfl⟩ := h; exact DVs_one k
  | func fn f c => have k := h; simp only [DV] at h; obtain ⟨f', c', rfl, _⟩ := h; exact DVs_one k
  | yield l => have k := h; simp only [DV] at h; obtain ⟨b, d, e, _, rfl⟩ := h; exact DVs_one k
  | iface t x => have k := h; simp only [DV] at h; obtain ⟨u, rfl, _⟩ := h; exact DVs_one k
  | tuple cs => have k := h; simp only [DV] at h; obtain ⟨a, rfl, _⟩ := h; exact DVs_one k
  | emp => have k := h; simp only [DV] at h; obtain ⟨a, c, rfl⟩ := h; exact DVs_one k
  | bool b => have := h; simp [DV] at h; subst h; exact DVs_one this
  | int k n => have := h; simp [DV] at h; subst h; exact DVs_one this
  | str s => have := h; simp [DV] at h; subst h; exact DVs_one this
  | nilFunc => have := h; simp [DV] at h; subst h; exact DVs_one this
  | nilIface => have := h; simp [DV] at h; subst h; exact DVs_one this

/-! ### constants -/
theorem mapM_DVs {R : Ren} (f : Value → Option LV) (hf : ∀ v x, f v = some x → DV R x v) : ∀ (l : List Value) (xs : List LV), l.mapM f = some xs → DVs R xs l
  | [], xs, h => by simp at h; subst h; exact DVs_nil
  | v :: l, xs, h => by
    simp only [List.mapM_cons, Option.bind_eq_bind, Option.pure_def] at h
    cases hv : f v with
    | none => simp [hv] at h
    | some x =>
      cases hl : l.mapM f with
      | none => simp [hv, hl] at h
      | some ys =>
        simp [hv, hl] at h
        subst h
        exact DVs_cons (hf _ _ hv) (mapM_DVs f hf l ys hl)

theorem ofV_DV {R : Ren} : ∀ (n : Nat) (v : Value) (x : LV), ofV n v = some x → DV R x v
  | 0, _, _, h => by simp [ofV] at h
  | n + 1, v, x, h => by
    have ih := ofV_DV (R := R) n
    cases v with
    | bool b => simp [ofV] at h; subst h; simp [DV]
    | int k m => simp [ofV] at h; subst h; simp [DV]
    | string s => simp [ofV] at h; subst h; simp [DV]
    | pointer a => cases a <;> simp [ofV] at h; subst h; simp [DV]
    | slice a l c =>
      cases a with
      | none => cases l with
        | zero => cases c with
          | zero => simp [ofV] at h; subst h; simp [DV]
          | succ c => simp [ofV] at h
        | succ l => simp [ofV] at h
      | some a => simp [ofV] at h
    | map r => cases r <;> simp [ofV] at h; subst h; simp [DV]
    | nilFunc => simp [ofV] at h; subst h; simp [DV]
    | nilIface => simp [ofV] at h; subst h; simp [DV]
    | iface t u =>
      simp only [ofV, Option.map_eq_some_iff] at h
      obtain ⟨y, hy, rfl⟩ := h
      simp only [DV]
      exact ⟨u, rfl, ih _ _ hy⟩
    | agg cs =>
      simp only [ofV, Option.map_eq_some_iff] at h
      obtain ⟨y, hy, rfl⟩ := h
      simp only [DV]
      exact ⟨cs, rfl, mapM_DVs _ ih _ _ hy⟩
    | tuple cs =>
      simp only [ofV, Option.map_eq_some_iff] at h
      obtain ⟨y, hy, rfl⟩ := h
      simp only [DV]
      exact ⟨cs, rfl, mapM_DVs _ ih _ _ hy⟩
    | float k b => simp [ofV] at h
    | complex k a b => simp [ofV] at h
    | chan r => simp [ofV] at h
    | func a b c => simp [ofV] at h

end Go.Lv
