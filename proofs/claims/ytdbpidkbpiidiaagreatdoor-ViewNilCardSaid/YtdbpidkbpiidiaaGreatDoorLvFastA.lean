/- Lv: the evaluator in a form that the kernel runs fast; what it comes to the plain one comes to. -/
import Derived.Test.YtdbpidkbpiidiaaGreatDoorLvWp
namespace Go.Lv
open Go
set_option linter.unusedVariables false
set_option linter.unusedSimpArgs false

/-- A box: what stands in it without free variables is reckoned once. -/
structure Bx (α : Type) where
  f : α

/-! ### tables by number, by paths -/
section
variable {α : Type}
noncomputable def pathF : Nat → Nat → List Bool := fun f => Nat.rec (fun _ => []) (fun _ ih k => Bool.rec (List.cons (Nat.beq (k % 2) 1) (ih (Bool.rec (k / 2 - 1) (k / 2) (Nat.beq (k % 2) 1)))) [] (Nat.beq k 0)) f
noncomputable def pathOf (k : Nat) : List Bool := pathF (k + 1) k
noncomputable def Tr.valK (t : Tr α) : Option α := Tr.casesOn t none (fun v _ _ => v)
noncomputable def Tr.leftK (t : Tr α) : Tr α := Tr.casesOn t .leaf (fun _ l _ => l)
noncomputable def Tr.rightK (t : Tr α) : Tr α := Tr.casesOn t .leaf (fun _ _ r => r)
noncomputable def getP (p : List Bool) : Tr α → Option α := List.rec (fun t => t.valK) (fun b _ ih t => Tr.casesOn t none (fun _ l r => ih (Bool.rec r l b))) p
noncomputable def setP (v : Option α) (p : List Bool) : Tr α → Tr α := List.rec (fun t => .node v t.leftK t.rightK) (fun b _ ih t => Bool.rec (.node t.valK t.leftK (ih t.rightK)) (.node t.valK (ih t.leftK) t.rightK) b) p

theorem Tr.valK_eq (t : Tr α) : t.valK = t.val := by cases t <;> rfl
theorem Tr.leftK_eq (t : Tr α) : t.leftK = t.left := by cases t <;> rfl
theorem Tr.rightK_eq (t : Tr α) : t.rightK = t.right := by cases t <;> rfl
theorem getP_leaf (p : List Bool) : getP p (.leaf : Tr α) = none := by cases p <;> rfl
theorem getP_F : ∀ (f : Nat) (t : Tr α) (k : Nat), k < f → getP (pathF f k) t = t.get k
  | 0, t, k, h => by omega
  | f + 1, t, k, h => by
    cases t with
    | leaf => rw [getP_leaf]; rfl
    | node v l r =>
      by_cases hk : k = 0
      · subst hk; rfl
      · have e0 : Nat.beq k 0 = false := by cases k <;> first | rfl | (exact absurd rfl hk)
        have e1 : pathF (f + 1) k = (Nat.beq (k % 2) 1) :: pathF f (Bool.rec (k / 2 - 1) (k / 2) (Nat.beq (k % 2) 1)) := by
          show (Bool.rec _ _ (Nat.beq k 0) : List Bool) = _
          rw [e0]; rfl
        rw [e1]
        simp only [Tr.get, if_neg hk]
        by_cases h2 : k % 2 = 1
        · have e2 : Nat.beq (k % 2) 1 = true := by rw [h2]; rfl
          rw [if_pos h2]
          show getP (pathF f (Bool.rec (k / 2 - 1) (k / 2) (Nat.beq (k % 2) 1))) (Bool.rec r l (Nat.beq (k % 2) 1)) = _
          rw [e2]
          exact getP_F f l (k / 2) (by omega)
        · have e2 : Nat.beq (k % 2) 1 = false := by
            cases e : Nat.beq (k % 2) 1 with
            | false => rfl
            | true => exact absurd (Nat.eq_of_beq_eq_true e) h2
          rw [if_neg h2]
          show getP (pathF f (Bool.rec (k / 2 - 1) (k / 2) (Nat.beq (k % 2) 1))) (Bool.rec r l (Nat.beq (k % 2) 1)) = _
          rw [e2]
          exact getP_F f r (k / 2 - 1) (by omega)
theorem getP_eq (t : Tr α) (k : Nat) : getP (pathOf k) t = t.get k := getP_F _ _ _ (Nat.lt_succ_self k)
theorem setP_F (v : Option α) : ∀ (f : Nat) (t : Tr α) (k : Nat), k < f → setP v (pathF f k) t = Tr.setF f t k v
  | 0, t, k, h => by omega
  | f + 1, t, k, h => by
    by_cases hk : k = 0
    · subst hk
      show Tr.node v t.leftK t.rightK = _
      simp only [Tr.setF, if_pos, Tr.leftK_eq, Tr.rightK_eq]
    · have e0 : Nat.beq k 0 = false := by cases k <;> first | rfl | (exact absurd rfl hk)
      have e1 : pathF (f + 1) k = (Nat.beq (k % 2) 1) :: pathF f (Bool.rec (k / 2 - 1) (k / 2) (Nat.beq (k % 2) 1)) := by
        show (Bool.rec _ _ (Nat.beq k 0) : List Bool) = _
        rw [e0]; rfl
      rw [e1]
      simp only [Tr.setF, if_neg hk]
      by_cases h2 : k % 2 = 1
      · have e2 : Nat.beq (k % 2) 1 = true := by rw [h2]; rfl
        rw [if_pos h2, e2]
        show Tr.node t.valK (setP v (pathF f (k / 2)) t.leftK) t.rightK = _
        rw [setP_F v f _ (k / 2) (by omega), Tr.valK_eq, Tr.leftK_eq, Tr.rightK_eq]
      · have e2 : Nat.beq (k % 2) 1 = false := by
          cases e : Nat.beq (k % 2) 1 with
          | false => rfl
          | true => exact absurd (Nat.eq_of_beq_eq_true e) h2
        rw [if_neg h2, e2]
        show Tr.node t.valK t.leftK (setP v (pathF f (k / 2 - 1)) t.rightK) = _
        rw [setP_F v f _ (k / 2 - 1) (by omega), Tr.valK_eq, Tr.leftK_eq, Tr.rightK_eq]
theorem setP_eq (v : Option α) (t : Tr α) (k : Nat) : setP v (pathOf k) t = t.set k v := setP_F v _ t k (Nat.lt_succ_self k)
end

noncomputable def LH.getK (H : LH) (i : Nat) : Option LO := getP (pathOf i) H.t
noncomputable def LH.putK (H : LH) (i : Nat) (o : LO) : LH := ⟨H.next, setP (some o) (pathOf i) H.t⟩
theorem LH.getK_eq (H : LH) (i : Nat) : H.getK i = H.get i := getP_eq _ _
theorem LH.putK_eq (H : LH) (i : Nat) (o : LO) : H.putK i o = H.put i o := by unfold LH.putK LH.put; rw [setP_eq]

/-! ### slots -/
abbrev Mf := Nat → Option LV
def cls (k : Nat) : Bool := Nat.blt k 14
/-- A frame's slots: the table, and two functions that say the same of low and of high slots (the table itself is hardly ever looked at). -/
structure Sl where
  t : Tr LV
  v : Mf
  w : Mf
  ok : ∀ k, (bif cls k then v k else w k) = t.get k
def mkE (n G : Nat) (s : Sl) : Env := ⟨n, G, s.t⟩
noncomputable def updF (m : Mf) (k : Nat) (x : LV) : Mf := fun j => Bool.rec (m j) (some x) (Nat.beq k j)
theorem updF_eq (m : Mf) (k j : Nat) (x : LV) : updF m k x j = if j = k then some x else m j := by
  show (Bool.rec (m j) (some x) (Nat.beq k j) : Option LV) = _
  cases e : Nat.beq k j with
  | true => rw [if_pos (Nat.eq_of_beq_eq_true e).symm]
  | false => rw [if_neg (fun h => Nat.ne_of_beq_eq_false e h.symm)]
theorem put_v {t : Tr LV} {v w : Mf} (ok : ∀ k, (bif cls k then v k else w k) = t.get k) {j : Nat} (x : LV) (hc : cls j = true) : ∀ k, (bif cls k then updF v j x k else w k) = (setP (some x) (pathOf j) t).get k := fun k => by
  rw [setP_eq, Tr.get_set, updF_eq, ← ok k]
  by_cases e : k = j
  · subst e; rw [hc]; simp
  · simp [e]
theorem put_w {t : Tr LV} {v w : Mf} (ok : ∀ k, (bif cls k then v k else w k) = t.get k) {j : Nat} (x : LV) (hc : cls j = false) : ∀ k, (bif cls k then v k else updF w j x k) = (setP (some x) (pathOf j) t).get k := fun k => by
  rw [setP_eq, Tr.get_set, updF_eq, ← ok k]
  by_cases e : k = j
  · subst e; rw [hc]; simp
  · simp [e]
/-- A value put into a slot, and on. -/
noncomputable def putD {β : Type} (j : Nat) (c : Bool) (h : cls j = c) : Bx (LV → Sl → (Sl → β) → β) :=
  match c, h with
  | true, h => ⟨fun x s k => Sl.rec (fun t v w ok => k ⟨setP (some x) (pathOf j) t, updF v j x, w, put_v ok x h⟩) s⟩
  | false, h => ⟨fun x s k => Sl.rec (fun t v w ok => k ⟨setP (some x) (pathOf j) t, v, updF w j x, put_w ok x h⟩) s⟩
noncomputable def putB {β : Type} (n : Nat) (d : Option Nat) : Bx (LV → Sl → (Sl → β) → β) :=
  match d with
  | none => ⟨fun _ s k => k s⟩
  | some j => Bool.rec ⟨fun _ s k => k s⟩ (putD j (cls j) rfl) (Nat.blt j n)
noncomputable def putS (n : Nat) (d : Option Nat) (x : LV) (s : Sl) : Sl := (putB n d).f x s (fun s => s)
theorem blt_iff {a b : Nat} : Nat.blt a b = true ↔ a < b := by
  unfold Nat.blt
  rw [Nat.ble_eq]; exact Nat.succ_le_iff
theorem putD_k {β : Type} (j : Nat) (c : Bool) (h : cls j = c) (x : LV) (s : Sl) (k : Sl → β) : (putD j c h).f x s k = k ((putD j c h).f x s (fun s => s)) := by
  cases c <;> (cases s; rfl)
theorem putB_k {β : Type} (n : Nat) (d : Option Nat) (x : LV) (s : Sl) (k : Sl → β) : (putB n d).f x s k = k (putS n d x s) := by
  cases d with
  | none => rfl
  | some j =>
    show Bx.f (Bool.rec ⟨fun _ s k => k s⟩ (putD j (cls j) rfl) (Nat.blt j n) : Bx (LV → Sl → (Sl → β) → β)) x s k = k (Bx.f (Bool.rec ⟨fun _ s k => k s⟩ (putD j (cls j) rfl) (Nat.blt j n) : Bx (LV → Sl → (Sl → Sl) → Sl)) x s (fun s => s))
    cases Nat.blt j n with
    | false => rfl
    | true => exact putD_k _ _ _ _ _ _
theorem putD_t (j : Nat) (c : Bool) (h : cls j = c) (x : LV) (s : Sl) : ((putD j c h).f x s (fun s => s)).t = s.t.set j (some x) := by
  cases c <;> (cases s; exact setP_eq _ _ _)
theorem putB_eq (n G : Nat) (d : Option Nat) (v : LV) (s : Sl) : mkE n G (putS n d v s) = (mkE n G s).putO d v := by
  cases d with
  | none => rfl
  | some j =>
    show mkE n G (Bx.f (Bool.rec ⟨fun _ s k => k s⟩ (putD j (cls j) rfl) (Nat.blt j n) : Bx (LV → Sl → (Sl → Sl) → Sl)) v s (fun s => s)) = if j < (mkE n G s).n then { mkE n G s with t := s.t.set j (some v) } else mkE n G s
    by_cases h : j < n
    · rw [if_pos (show j < (mkE n G s).n from h), blt_iff.2 h]
      show Env.mk n G _ = Env.mk n G _
      rw [putD_t]
    · rw [if_neg (show ¬ j < (mkE n G s).n from h)]
      cases e : Nat.blt j n with
      | true => exact absurd (blt_iff.1 e) h
      | false => rfl
/-- The value in a slot. -/
noncomputable def rdB (k : Nat) : Bx (Sl → Option LV) := Bool.rec ⟨fun s => Sl.rec (fun _ _ w _ => w k) s⟩ ⟨fun s => Sl.rec (fun _ v _ _ => v k) s⟩ (cls k)
theorem rdB_eq (k : Nat) (s : Sl) : (rdB k).f s = s.t.get k := by
  have h := s.ok k
  unfold rdB
  cases e : cls k with
  | true => rw [e] at h; cases s; exact h
  | false => rw [e] at h; cases s; exact h
noncomputable def evB (G : Nat) (x : Operand) : Bx (Sl → Option LV) :=
  match x with
  | .tmp k => rdB k
  | .const v => ⟨fun _ => ofV 4 v⟩
  | .global g => ⟨fun _ => if g < G then some (.ptr (some (g, 0))) else none⟩
  | .func f => ⟨fun _ => some (.func (.func f) [] [])⟩
theorem evB_eq (n G : Nat) (x : Operand) (s : Sl) : (evB G x).f s = (mkE n G s).ev x := by
  cases x with
  | tmp k => exact rdB_eq k s
  | const v => rfl
  | global g => rfl
  | func f => rfl
/-- The slots that some operands name, alone. -/
noncomputable def fewT (s : Sl) (xs : List Operand) : Tr LV := List.rec .leaf (fun x _ ih => Operand.rec (fun k => setP ((rdB k).f s) (pathOf k) ih) (fun _ => ih) (fun _ => ih) (fun _ => ih) x) xs
theorem fewT_get (s : Sl) : ∀ (xs : List Operand) (k : Nat), .tmp k ∈ xs → (fewT s xs).get k = s.t.get k
  | x :: xs, k, h => by
    have ih := fewT_get s xs k
    cases x with
    | tmp j =>
      show (setP ((rdB j).f s) (pathOf j) (fewT s xs)).get k = _
      rw [setP_eq, Tr.get_set, rdB_eq]
      by_cases e : k = j
      · subst e; simp
      · rw [if_neg e]
        exact ih (by rcases List.mem_cons.1 h with h1 | h1; · cases h1; exact absurd rfl e
                     · exact h1)
    | _ => exact ih (by rcases List.mem_cons.1 h with h1 | h1; · cases h1
                        · exact h1)
noncomputable def fewE (n G : Nat) (s : Sl) (xs : List Operand) : Env := ⟨n, G, fewT s xs⟩
theorem fewE_ev (n G : Nat) (s : Sl) (xs : List Operand) : ∀ x ∈ xs, (fewE n G s xs).ev x = (mkE n G s).ev x := fun x hx => by
  cases x with
  | tmp k => exact fewT_get s xs k hx
  | _ => rfl
noncomputable def evsB (G : Nat) (xs : List Operand) : Bx (Sl → Option (List LV)) :=
  List.rec ⟨fun _ => some []⟩ (fun x _ ih => ⟨fun t => Option.rec none (fun v => Option.rec none (fun vs => some (v :: vs)) (ih.f t)) ((evB G x).f t)⟩) xs
theorem evsB_eq (n G : Nat) (t : Sl) : ∀ xs : List Operand, (evsB G xs).f t = evAll (mkE n G t) xs
  | [] => rfl
  | x :: xs => by
    show (Option.rec none (fun v => Option.rec none (fun vs => some (v :: vs)) ((evsB G xs).f t)) ((evB G x).f t) : Option (List LV)) = _
    rw [evsB_eq n G t xs, evB_eq n]
    simp only [evAll]
    cases (mkE n G t).ev x with
    | none => rfl
    | some v => cases evAll (mkE n G t) xs <;> rfl

/-! ### numbers -/
def capP : IntKind → Nat
  | .i8 => 128 | .i16 => 32768 | .i32 => 2147483648 | .i64 => 9223372036854775808 | .u8 => 256 | .u16 => 65536 | .u32 => 4294967296 | .u64 => 18446744073709551616
def capN : IntKind → Nat
  | .i8 => 128 | .i16 => 32768 | .i32 => 2147483648 | .i64 => 9223372036854775808 | _ => 0
noncomputable def wrapK (k : IntKind) (x : Int) : Int :=
  Int.rec (fun n => Bool.rec (k.wrap (.ofNat n)) (.ofNat n) (Nat.blt n (capP k))) (fun n => Bool.rec (k.wrap (.negSucc n)) (.negSucc n) (Nat.blt n (capN k))) x
theorem wrap_in (k : IntKind) (x : Int) (h1 : -(capN k : Int) ≤ x) (h2 : x < capP k) : k.wrap x = x := by
  unfold IntKind.wrap
  cases k <;> simp only [capN, capP, IntKind.bits, IntKind.signed] at h1 h2 ⊢ <;> simp <;> omega
theorem wrapK_eq (k : IntKind) (x : Int) : wrapK k x = k.wrap x := by
  cases x with
  | ofNat n =>
    show (Bool.rec (k.wrap (.ofNat n)) (.ofNat n) (Nat.blt n (capP k)) : Int) = _
    cases e : Nat.blt n (capP k) with
    | false => rfl
    | true =>
      have := blt_iff.1 e
      exact (wrap_in k _ (by show _ ≤ (n : Int); omega) (by show (n : Int) < _; omega)).symm
  | negSucc n =>
    show (Bool.rec (k.wrap (.negSucc n)) (.negSucc n) (Nat.blt n (capN k)) : Int) = _
    cases e : Nat.blt n (capN k) with
    | false => rfl
    | true =>
      have := blt_iff.1 e
      show Int.negSucc n = _
      exact (wrap_in k _ (by omega) (by omega)).symm
noncomputable def ltK (a b : Int) : Bool := Int.rec (fun m => Int.rec (fun n => Nat.blt m n) (fun _ => false) b) (fun m => Int.rec (fun _ => true) (fun n => Nat.blt n m) b) a
theorem ltK_eq (a b : Int) : ltK a b = decide (a < b) := by
  rw [Bool.eq_iff_iff, decide_eq_true_iff]
  cases a with
  | ofNat m => cases b with
    | ofNat n => show Nat.blt m n = true ↔ _; rw [blt_iff]; simp
    | negSucc n => show false = true ↔ _; simp; omega
  | negSucc m => cases b with
    | ofNat n => show true = true ↔ _; simp; omega
    | negSucc n => show Nat.blt n m = true ↔ _; rw [blt_iff]; omega
noncomputable def eqK (a b : Int) : Bool := Int.rec (fun m => Int.rec (fun n => Nat.beq m n) (fun _ => false) b) (fun m => Int.rec (fun _ => false) (fun n => Nat.beq m n) b) a
theorem eqK_eq (a b : Int) : eqK a b = (a == b) := by
  rw [Bool.eq_iff_iff, beq_iff_eq]
  cases a with
  | ofNat m => cases b with
    | ofNat n => show Nat.beq m n = true ↔ _; rw [Nat.beq_eq]; exact ⟨fun h => by rw [h], fun h => Int.ofNat.inj h⟩
    | negSucc n => show false = true ↔ _; simp
  | negSucc m => cases b with
    | ofNat n => show false = true ↔ _; simp
    | negSucc n => show Nat.beq m n = true ↔ _; rw [Nat.beq_eq]; exact ⟨fun h => by rw [h], fun h => Int.negSucc.inj h⟩
/-- Of which kind, as a number. -/
def kidx : IntKind → Nat
  | .i8 => 0 | .i16 => 1 | .i32 => 2 | .i64 => 3 | .u8 => 4 | .u16 => 5 | .u32 => 6 | .u64 => 7
theorem kidx_eq {a b : IntKind} : Nat.beq (kidx a) (kidx b) = true ↔ a = b := by cases a <;> cases b <;> simp [kidx]
/-- Two whole numbers of one kind, else another way. -/
noncomputable def twoInts {β : Type} (a b : LV) (f : IntKind → Int → Int → β) (g : β) : β :=
  match a with
  | .int k m => (match b with
    | .int k' n => Bool.rec g (f k m n) (Nat.beq (kidx k) (kidx k'))
    | _ => g)
  | _ => g
theorem twoInts_or {β : Type} (a b : LV) (f : IntKind → Int → Int → β) (g : β) : twoInts a b f g = g ∨ ∃ k m n, a = .int k m ∧ b = .int k n ∧ twoInts a b f g = f k m n := by
  cases a with
  | int k m => cases b with
    | int k' n =>
      show (Bool.rec g (f k m n) (Nat.beq (kidx k) (kidx k')) : β) = g ∨ ∃ k2 m2 n2, LV.int k m = .int k2 m2 ∧ LV.int k' n = .int k2 n2 ∧ (Bool.rec g (f k m n) (Nat.beq (kidx k) (kidx k')) : β) = f k2 m2 n2
      cases e : Nat.beq (kidx k) (kidx k') with
      | false => exact .inl rfl
      | true => have := kidx_eq.1 e; subst this; exact .inr ⟨k, m, n, rfl, rfl, rfl⟩
    | _ => exact .inl rfl
  | _ => exact .inl rfl
theorem lbin_intF {P : Program} {op : BinOp} {t : Nat} {x y : Operand} {k : IntKind} {m n : Int} (h1 : op ≠ .shl) (h2 : op ≠ .shr) : lbin P op t x y (.int k m) (.int k n) = lint op k m n := by
  cases op <;> simp_all [lbin]
/-- A comparison or a sum by the quick way, the rest by the plain one. -/
noncomputable def binB (P : Program) (op : BinOp) (t : Nat) (x y : Operand) : Bx (LV → LV → Option LV) :=
  match op with
  | .add => ⟨fun a b => twoInts a b (fun k m n => some (.int k (wrapK k (Int.add m n)))) (lbin P .add t x y a b)⟩
  | .sub => ⟨fun a b => twoInts a b (fun k m n => some (.int k (wrapK k (Int.sub m n)))) (lbin P .sub t x y a b)⟩
  | .lss => ⟨fun a b => twoInts a b (fun k m n => some (.bool (ltK m n))) (lbin P .lss t x y a b)⟩
  | .gtr => ⟨fun a b => twoInts a b (fun k m n => some (.bool (ltK n m))) (lbin P .gtr t x y a b)⟩
  | .leq => ⟨fun a b => twoInts a b (fun k m n => some (.bool (Bool.rec true false (ltK n m)))) (lbin P .leq t x y a b)⟩
  | .geq => ⟨fun a b => twoInts a b (fun k m n => some (.bool (Bool.rec true false (ltK m n)))) (lbin P .geq t x y a b)⟩
  | .eql => ⟨fun a b => twoInts a b (fun k m n => some (.bool (eqK m n))) (lbin P .eql t x y a b)⟩
  | .neq => ⟨fun a b => twoInts a b (fun k m n => some (.bool (Bool.rec true false (eqK m n)))) (lbin P .neq t x y a b)⟩
  | op => ⟨fun a b => lbin P op t x y a b⟩
theorem rec_not (b : Bool) : (Bool.rec true false b : Bool) = !b := by cases b <;> rfl
theorem binB_eq (P : Program) (op : BinOp) (t : Nat) (x y : Operand) (a b : LV) : (binB P op t x y).f a b = lbin P op t x y a b := by
  cases op
  case add =>
    show twoInts a b _ _ = _
    rcases twoInts_or a b (fun k m n => some (LV.int k (wrapK k (Int.add m n)))) (lbin P .add t x y a b) with h | ⟨k, m, n, rfl, rfl, h⟩
    · exact h
    · rw [h, wrapK_eq, lbin_intF (by simp) (by simp)]; rfl
  case sub =>
    show twoInts a b _ _ = _
    rcases twoInts_or a b (fun k m n => some (LV.int k (wrapK k (Int.sub m n)))) (lbin P .sub t x y a b) with h | ⟨k, m, n, rfl, rfl, h⟩
    · exact h
    · rw [h, wrapK_eq, lbin_intF (by simp) (by simp)]; rfl
  case lss =>
    show twoInts a b _ _ = _
    rcases twoInts_or a b (fun k m n => some (LV.bool (ltK m n))) (lbin P .lss t x y a b) with h | ⟨k, m, n, rfl, rfl, h⟩
    · exact h
    · rw [h, ltK_eq, lbin_intF (by simp) (by simp)]; simp [lint, lcmp]
  case gtr =>
    show twoInts a b _ _ = _
    rcases twoInts_or a b (fun k m n => some (LV.bool (ltK n m))) (lbin P .gtr t x y a b) with h | ⟨k, m, n, rfl, rfl, h⟩
    · exact h
    · rw [h, ltK_eq, lbin_intF (by simp) (by simp)]; simp [lint, lcmp]
  case leq =>
    show twoInts a b _ _ = _
    rcases twoInts_or a b (fun k m n => some (LV.bool (Bool.rec true false (ltK n m)))) (lbin P .leq t x y a b) with h | ⟨k, m, n, rfl, rfl, h⟩
    · exact h
    · rw [h, rec_not, ltK_eq, lbin_intF (by simp) (by simp)]; simp [lint, lcmp]
      by_cases e : n < m
      · simp [e]
      · simp [e]; omega
  case geq =>
    show twoInts a b _ _ = _
    rcases twoInts_or a b (fun k m n => some (LV.bool (Bool.rec true false (ltK m n)))) (lbin P .geq t x y a b) with h | ⟨k, m, n, rfl, rfl, h⟩
    · exact h
    · rw [h, rec_not, ltK_eq, lbin_intF (by simp) (by simp)]; simp [lint, lcmp]
      by_cases e : m < n
      · simp [e]
      · simp [e]; omega
  case eql =>
    show twoInts a b _ _ = _
    rcases twoInts_or a b (fun k m n => some (LV.bool (eqK m n))) (lbin P .eql t x y a b) with h | ⟨k, m, n, rfl, rfl, h⟩
    · exact h
    · rw [h, eqK_eq, lbin_intF (by simp) (by simp)]; simp [lint, lcmp]
  case neq =>
    show twoInts a b _ _ = _
    rcases twoInts_or a b (fun k m n => some (LV.bool (Bool.rec true false (eqK m n)))) (lbin P .neq t x y a b) with h | ⟨k, m, n, rfl, rfl, h⟩
    · exact h
    · rw [h, rec_not, eqK_eq, lbin_intF (by simp) (by simp)]; rfl
  all_goals rfl

/-! ### lists -/
section
variable {α : Type}
noncomputable def nthK (l : List α) : Nat → Option α := List.rec (fun _ => none) (fun a _ ih i => Nat.rec (some a) (fun j _ => ih j) i) l
theorem nthK_eq : ∀ (l : List α) (i : Nat), nthK l i = l[i]?
  | [], i => rfl
  | a :: l, 0 => rfl
  | a :: l, i + 1 => nthK_eq l i
/-- The first n, if there are as many. -/
noncomputable def takeK (n : Nat) : List α → Option (List α) := Nat.rec (fun _ => some []) (fun _ ih l => List.rec none (fun a r _ => Option.rec none (fun x => some (a :: x)) (ih r)) l) n
theorem takeK_eq : ∀ (n : Nat) (l : List α), takeK n l = if n ≤ l.length then some (l.take n) else none
  | 0, l => by rw [if_pos (Nat.zero_le _)]; rfl
  | n + 1, [] => rfl
  | n + 1, a :: l => by
    show (Option.rec none (fun x => some (a :: x)) (takeK n l) : Option (List α)) = _
    rw [takeK_eq n l]
    by_cases h : n ≤ l.length
    · rw [if_pos h, if_pos (by simp; omega)]; rfl
    · rw [if_neg h, if_neg (by simp; omega)]
noncomputable def cutK (off n : Nat) : List α → Option (List α) := Nat.rec (takeK n) (fun _ ih l => List.rec none (fun _ r _ => ih r) l) off
theorem cutK_eq (n : Nat) : ∀ (off : Nat) (l : List α), 0 < n → cutK off n l = if off + n ≤ l.length then some ((l.drop off).take n) else none
  | 0, l, _ => by show takeK n l = _; rw [takeK_eq]; simp
  | off + 1, [], hn => by rw [if_neg (by simp)]; rfl
  | off + 1, a :: l, hn => by
    show cutK off n l = _
    rw [cutK_eq n off l hn]
    by_cases h : off + n ≤ l.length
    · rw [if_pos h, if_pos (by simp; omega), List.drop_succ_cons]
    · rw [if_neg h, if_neg (by simp; omega)]
/-- xs in the place of the first ones. -/
noncomputable def overK (xs : List α) : List α → Option (List α) := List.rec (fun l => some l) (fun x _ ih l => List.rec none (fun _ r _ => Option.rec none (fun y => some (x :: y)) (ih r)) l) xs
theorem overK_eq : ∀ (xs l : List α), overK xs l = if xs.length ≤ l.length then some (xs ++ l.drop xs.length) else none
  | [], l => by rw [if_pos (show ([] : List α).length ≤ l.length from Nat.zero_le _)]; rfl
  | x :: xs, [] => rfl
  | x :: xs, a :: l => by
    show (Option.rec none (fun y => some (x :: y)) (overK xs l) : Option (List α)) = _
    rw [overK_eq xs l]
    by_cases h : xs.length ≤ l.length
    · rw [if_pos h, if_pos (by simp; omega)]; rfl
    · rw [if_neg h, if_neg (by simp; omega)]
noncomputable def splK (xs : List α) (off : Nat) : List α → Option (List α) := Nat.rec (overK xs) (fun _ ih l => List.rec none (fun a r _ => Option.rec none (fun y => some (a :: y)) (ih r)) l) off
end
theorem splK_eq (xs : List LV) : ∀ (off : Nat) (l : List LV), xs ≠ [] → splK xs off l = if off + xs.length ≤ l.length then some (splice l off xs) else none
  | 0, l, _ => by show overK xs l = _; rw [overK_eq]; simp [splice]
  | off + 1, [], h => by
    have : 0 < xs.length := List.length_pos_iff.2 h
    rw [if_neg (by simp)]; rfl
  | off + 1, a :: l, h => by
    show (Option.rec none (fun y => some (a :: y)) (splK xs off l) : Option (List LV)) = _
    rw [splK_eq xs off l h]
    by_cases h2 : off + xs.length ≤ l.length
    · rw [if_pos h2, if_pos (by simp; omega)]; simp [splice, Nat.add_right_comm]
    · rw [if_neg h2, if_neg (by simp; omega)]
end Go.Lv
