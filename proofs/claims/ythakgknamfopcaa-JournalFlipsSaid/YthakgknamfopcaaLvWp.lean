/- Lv: rules by which a text is walked through with what is known of slots and heap. -/
import Derived.Test.YthakgknamfopcaaLvKnown
import Derived.KernelRfl
namespace Go.Lv
open Go
set_option linter.unusedVariables false
set_option linter.unusedSimpArgs false
set_option linter.unusedSectionVars false

section
/-- The known calls of a seat. -/
class Known where kn : List KnF
variable {P : Program} [Known]

/-- With steps enough, the evaluator (with the known calls) comes to this. -/
def Kw (P : Program) (t : Task) (r : Res) : Prop := ∃ n, runK P Known.kn n t = some r

theorem Kw.step' {n : Nat} {t : Task} {r : Res} (hk : knAt P Known.kn t = none) (h : runStep P (runK P Known.kn n) t = some r) : runK P Known.kn (n + 1) t = some r := by
  show stepK P Known.kn (runK P Known.kn n) t = some r
  unfold stepK
  rw [hk]; exact h
theorem Kw.of {t t' : Task} {r r' : Res} (h : Kw P t' r') (hs : ∀ rec, rec t' = some r' → runStep P rec t = some r) (hk : knAt P Known.kn t = none := by rfl) : Kw P t r := by
  obtain ⟨n, hn⟩ := h
  exact ⟨n + 1, Kw.step' hk (hs _ hn)⟩
theorem Kw.now {t : Task} {r : Res} (hs : ∀ rec, runStep P rec t = some r) (hk : knAt P Known.kn t = none := by rfl) : Kw P t r := ⟨1, Kw.step' hk (hs _)⟩
theorem Kw.of2 {t t1 t2 : Task} {r1 r : Res} {r2 : Res} (h1 : Kw P t1 r1) (h2 : Kw P t2 r2) (hs : ∀ rec, rec t1 = some r1 → rec t2 = some r2 → runStep P rec t = some r) (hk : knAt P Known.kn t = none := by rfl) : Kw P t r := by
  obtain ⟨n, hn⟩ := h1
  obtain ⟨m, hm⟩ := h2
  exact ⟨max n m + 1, Kw.step' hk (hs _ (runK_le (Nat.le_max_left n m) _ _ hn) (runK_le (Nat.le_max_right n m) _ _ hm))⟩

/-! ### what is known of the slots -/
abbrev Kno := List (Nat × LV)
def lk : Kno → Nat → Option LV
  | [], _ => none
  | (k, v) :: g, j => bif Nat.beq k j then some v else lk g j

def EK (g : Kno) (E : Env) : Prop := ∀ k v, lk g k = some v → E.get k = some v
theorem EK.nil (E : Env) : EK [] E := fun k v h => by cases h
theorem EK.put {g : Kno} {E : Env} (h : EK g E) {k : Nat} (hk : k < E.n) (v : LV) : EK ((k, v) :: g) (E.put k v) := fun j u hj => by
  simp only [lk] at hj
  rw [Env.get_put]
  cases e : Nat.beq k j with
  | true =>
    rw [e] at hj
    have := Nat.eq_of_beq_eq_true e
    subst this
    rw [if_pos ⟨rfl, hk⟩]; exact hj
  | false =>
    rw [e] at hj
    have := Nat.ne_of_beq_eq_false e
    rw [if_neg (fun hh => this hh.1.symm)]
    exact h j u hj
/-- All that the first knows the second knows. -/
def KSub : Kno → Kno → Prop
  | [], _ => True
  | (k, v) :: gs, g => lk g k = some v ∧ KSub gs g
theorem KSub.lk : ∀ {gs g : Kno}, KSub gs g → ∀ k v, lk gs k = some v → lk g k = some v
  | [], g, _, k, v, h => by cases h
  | (j, u) :: gs, g, hs, k, v, h => by
    simp only [Lv.lk] at h
    cases e : Nat.beq j k with
    | true =>
      rw [e] at h
      have := Nat.eq_of_beq_eq_true e
      subst this
      cases h
      exact hs.1
    | false => rw [e] at h; exact KSub.lk hs.2 k v h
theorem EK.sub {gs g : Kno} {E : Env} (h : EK g E) (hs : KSub gs g) : EK gs E := fun k v hk => h k v (hs.lk k v hk)

def argsK : Nat → List LV → Kno
  | _, [] => []
  | i, v :: vs => (i, v) :: argsK (i + 1) vs
theorem argsK_lt : ∀ (vs : List LV) (i j : Nat) (v : LV), lk (argsK i vs) j = some v → i ≤ j ∧ vs[j - i]? = some v
  | [], i, j, v, h => by cases h
  | u :: vs, i, j, v, h => by
    simp only [argsK, lk] at h
    cases e : Nat.beq i j with
    | true =>
      rw [e] at h
      have := Nat.eq_of_beq_eq_true e
      subst this
      simp at h ⊢; exact h
    | false =>
      rw [e] at h
      have hne := Nat.ne_of_beq_eq_false e
      obtain ⟨h1, h2⟩ := argsK_lt vs (i + 1) j v h
      refine ⟨by omega, ?_⟩
      have : j - i = (j - (i + 1)) + 1 := by omega
      rw [this, List.getElem?_cons_succ]; exact h2
theorem putAll_get : ∀ (vs : List LV) (E : Env) (i j : Nat), i + vs.length ≤ E.n → (Env.putAll E i vs).get j = if i ≤ j ∧ j < i + vs.length then vs[j - i]? else E.get j
  | [], E, i, j, h => by simp only [Env.putAll, List.length_nil]; rw [if_neg (by omega)]
  | v :: vs, E, i, j, h => by
    simp only [Env.putAll, List.length_cons] at h ⊢
    rw [putAll_get vs _ _ _ (by simp; omega)]
    by_cases h1 : i + 1 ≤ j ∧ j < i + 1 + vs.length
    · rw [if_pos h1, if_pos (by omega)]
      have : j - i = (j - (i + 1)) + 1 := by omega
      rw [this, List.getElem?_cons_succ]
    · rw [if_neg h1, Env.get_put]
      by_cases h2 : j = i
      · subst h2; rw [if_pos ⟨rfl, by omega⟩, if_pos (by omega)]; simp
      · rw [if_neg (by omega), if_neg (by omega)]
theorem putAll_n : ∀ (vs : List LV) (E : Env) (i : Nat), (Env.putAll E i vs).n = E.n ∧ (Env.putAll E i vs).g = E.g
  | [], E, i => ⟨rfl, rfl⟩
  | v :: vs, E, i => by
    simp only [Env.putAll]
    have := putAll_n vs (E.put i v) (i + 1)
    simpa using this
theorem start_EK {n : Nat} {args : List LV} : EK (argsK 0 args) (Env.start P n args) := fun k v h => by
  obtain ⟨_, h2⟩ := argsK_lt args 0 k v h
  have hl := (List.getElem?_eq_some_iff.1 h2).1
  unfold Env.start
  rw [putAll_get _ _ _ _ (by simp), if_pos ⟨Nat.zero_le _, by omega⟩]
  simpa using h2
theorem start_n {n : Nat} {args : List LV} (h : args.length ≤ n) : (Env.start P n args).n = n ∧ (Env.start P n args).g = P.globals.size := by
  unfold Env.start
  rw [(putAll_n _ _ _).1, (putAll_n _ _ _).2]
  exact ⟨by simp; omega, rfl⟩

def evk (g : Kno) (G : Nat) : Operand → Option LV
  | .tmp t => lk g t
  | .const v => ofV 4 v
  | .global i => if i < G then some (.ptr (some (i, 0))) else none
  | .func f => some (.func (.func f) [] [])
theorem evk_ev {g : Kno} {E : Env} (h : EK g E) {G : Nat} (hG : E.g = G) {x : Operand} {v : LV} (hx : evk g G x = some v) : E.ev x = some v := by
  subst hG
  cases x with
  | tmp t => exact h t v hx
  | const c => exact hx
  | global i => exact hx
  | func f => exact hx
def evks (g : Kno) (G : Nat) : List Operand → Option (List LV)
  | [] => some []
  | x :: xs =>
    match evk g G x, evks g G xs with
    | some v, some vs => some (v :: vs)
    | _, _ => none
theorem evks_ev {g : Kno} {E : Env} (h : EK g E) {G : Nat} (hG : E.g = G) : ∀ {xs : List Operand} {vs : List LV}, evks g G xs = some vs → evAll E xs = some vs
  | [], vs, hx => hx
  | x :: xs, vs, hx => by
    simp only [evks] at hx
    split at hx
    · rename_i v vs' h1 h2
      cases hx
      simp only [evAll, evk_ev h hG h1, evks_ev h hG h2]
    · cases hx
def evkp (g : Kno) (G : Nat) : List (Nat × Operand) → Option (List (Nat × LV))
  | [] => some []
  | (i, x) :: xs =>
    match evk g G x, evkp g G xs with
    | some v, some vs => some ((i, v) :: vs)
    | _, _ => none
theorem evkp_ev {g : Kno} {E : Env} (h : EK g E) {G : Nat} (hG : E.g = G) : ∀ {xs : List (Nat × Operand)} {vs : List (Nat × LV)}, evkp g G xs = some vs → evParts E xs = some vs
  | [], vs, hx => hx
  | (i, x) :: xs, vs, hx => by
    simp only [evkp] at hx
    split at hx
    · rename_i v vs' h1 h2
      cases hx
      simp only [evParts, evk_ev h hG h1, evkp_ev h hG h2]
    · cases hx

/-! ### frames -/
structure FSt where
  fn : Nat
  N : Nat
  G : Nat
  D : List LDef := []
  rnd : Option Nat := none
  pan : Option (LV × Bool) := none
def FSt.at (σ : FSt) (E : Env) (H : LH) : FS := { fn := σ.fn, E, H, D := σ.D, rnd := σ.rnd, pan := σ.pan }

/-- From here the frame ends, and so. -/
def WP (P : Program) (σ : FSt) (K : List LItem) (g : Kno) (H : LH) (Q : FR → Prop) : Prop :=
  ∀ E, E.n = σ.N → E.g = σ.G → EK g E → ∃ r, Kw P (.frame K (σ.at E H)) (.fr r) ∧ Q r

theorem WP.sub {σ : FSt} {K : List LItem} {g gs : Kno} {H : LH} {Q : FR → Prop} (h : WP P σ K gs H Q) (hs : KSub gs g) : WP P σ K g H Q :=
  fun E h1 h2 h3 => h E h1 h2 (h3.sub hs)
theorem WP.mono {σ : FSt} {K : List LItem} {g : Kno} {H : LH} {Q Q' : FR → Prop} (h : WP P σ K g H Q) (hq : ∀ r, Q r → Q' r) : WP P σ K g H Q' :=
  fun E h1 h2 h3 => by obtain ⟨r, hr, hQ⟩ := h E h1 h2 h3; exact ⟨r, hr, hq r hQ⟩

section
variable {σ : FSt} {k : List LItem} {g : Kno} {H : LH} {Q : FR → Prop}

theorem WP.to {K K' : List LItem} {g' : Kno} (h : WP P σ K' g' H Q) (hs : ∀ E rec r, E.n = σ.N → E.g = σ.G → EK g E → rec (.frame K' (σ.at E H)) = some (.fr r) → runStep P rec (.frame K (σ.at E H)) = some (.fr r)) (hk : KSub g' g) : WP P σ K g H Q :=
  fun E h1 h2 h3 => by
    obtain ⟨r, hr, hQ⟩ := h E h1 h2 (h3.sub hk)
    exact ⟨r, hr.of (fun rec => hs E rec r h1 h2 h3), hQ⟩
theorem WP.go {K K' : List LItem} (h : WP P σ K' g H Q) (hs : ∀ E rec r, E.n = σ.N → E.g = σ.G → EK g E → rec (.frame K' (σ.at E H)) = some (.fr r) → runStep P rec (.frame K (σ.at E H)) = some (.fr r)) : WP P σ K g H Q :=
  fun E h1 h2 h3 => by
    obtain ⟨r, hr, hQ⟩ := h E h1 h2 h3
    exact ⟨r, hr.of (fun rec => hs E rec r h1 h2 h3), hQ⟩

theorem WP.skip (h : WP P σ k g H Q) : WP P σ (.code .skip :: k) g H Q := h.go fun E rec r _ _ _ hr => hr
theorem WP.inBlock {id : Nat} (h : WP P σ k g H Q) : WP P σ (.inBlock id :: k) g H Q := h.go fun E rec r _ _ _ hr => hr
theorem WP.inScope {c : Code} (h : WP P σ k g H Q) : WP P σ (.inScope c :: k) g H Q := h.go fun E rec r _ _ _ hr => hr
theorem WP.label {l : Nat} (h : WP P σ k g H Q) : WP P σ (.code (.label l) :: k) g H Q := h.go fun E rec r _ _ _ hr => hr
theorem WP.scope {c : Code} (h : WP P σ (.code c :: .inScope c :: k) g H Q) : WP P σ (.code (.scope c) :: k) g H Q := h.go fun E rec r _ _ _ hr => hr
theorem WP.seq {a b : Code} (h : WP P σ (.code a :: .code b :: k) g H Q) : WP P σ (.code (.seq a b) :: k) g H Q := h.go fun E rec r _ _ _ hr => hr
theorem WP.block {id : Nat} {c : Code} (h : WP P σ (.code c :: .inBlock id :: k) g H Q) : WP P σ (.code (.block id c) :: k) g H Q := h.go fun E rec r _ _ _ hr => hr
theorem WP.loop {c : Code} (h : WP P σ (.inLoop c :: k) g H Q) : WP P σ (.code (.loop c) :: k) g H Q := by
  intro E h1 h2 h3
  obtain ⟨r, ⟨n, hn⟩, hQ⟩ := h E h1 h2 h3
  cases n with
  | zero => simp [runK] at hn
  | succ n => exact ⟨r, ⟨n + 1, hn⟩, hQ⟩
theorem WP.again {c : Code} (h : WP P σ (.code c :: .inLoop c :: k) g H Q) : WP P σ (.inLoop c :: k) g H Q := h.go fun E rec r _ _ _ hr => hr
theorem WP.goto {l : Nat} {k' : List LItem} (hl : lgoto l k = some k') (h : WP P σ k' g H Q) : WP P σ (.code (.goto l) :: k) g H Q := h.go fun E rec r _ _ _ hr => by
  simp only [runStep, hl]; exact hr
theorem WP.exit {id : Nat} {k' : List LItem} (hl : lexit id k = some k') (h : WP P σ k' g H Q) : WP P σ (.code (.exit id) :: k) g H Q := h.go fun E rec r _ _ _ hr => by
  simp only [runStep, hl]; exact hr
theorem WP.cond {c : Operand} {x y : Code} {b : Bool} (hc : evk g σ.G c = some (.bool b)) (ht : b = true → WP P σ (.code x :: k) g H Q) (hf : b = false → WP P σ (.code y :: k) g H Q) : WP P σ (.code (.cond c x y) :: k) g H Q := by
  cases b with
  | true => exact (ht rfl).go fun E rec r _ h2 h3 hr => by simp only [runStep]; rw [show (σ.at E H).E = E from rfl, evk_ev h3 h2 hc]; exact hr
  | false => exact (hf rfl).go fun E rec r _ h2 h3 hr => by simp only [runStep]; rw [show (σ.at E H).E = E from rfl, evk_ev h3 h2 hc]; exact hr

/-- The frame's end, of a function's own frame. -/
theorem WP.ret (hr : σ.rnd = none) (h : ∀ E, E.n = σ.N → E.g = σ.G → EK g E → Q (.ret (σ.at E H))) : WP P σ (.code .ret :: k) g H Q := fun E h1 h2 h3 =>
  ⟨_, Kw.now (fun rec => by simp only [runStep, FSt.at, hr]), h E h1 h2 h3⟩
theorem WP.nil (hr : σ.rnd = none) (h : ∀ E, E.n = σ.N → E.g = σ.G → EK g E → Q (.ret (σ.at E H))) : WP P σ [] g H Q := fun E h1 h2 h3 =>
  ⟨_, Kw.now (fun rec => by simp only [runStep, FSt.at, hr]), h E h1 h2 h3⟩
/-- Of a round. -/
theorem WP.ret_round {l : Nat} (hr : σ.rnd = some l) (h : ∀ E, E.n = σ.N → E.g = σ.G → EK g E → Q (.jump (some .ret) (σ.at E H))) : WP P σ (.code .ret :: k) g H Q := fun E h1 h2 h3 =>
  ⟨_, Kw.now (fun rec => by simp only [runStep, FSt.at, hr]), h E h1 h2 h3⟩
theorem WP.nil_round {l : Nat} (hr : σ.rnd = some l) (h : ∀ E, E.n = σ.N → E.g = σ.G → EK g E → Q (.jump none (σ.at E H))) : WP P σ [] g H Q := fun E h1 h2 h3 =>
  ⟨_, Kw.now (fun rec => by simp only [runStep, FSt.at, hr]), h E h1 h2 h3⟩
theorem WP.exit_round {l id : Nat} (hr : σ.rnd = some l) (hl : lexit id k = none) (h : ∀ E, E.n = σ.N → E.g = σ.G → EK g E → Q (.jump (some (.exit id)) (σ.at E H))) : WP P σ (.code (.exit id) :: k) g H Q := fun E h1 h2 h3 =>
  ⟨_, Kw.now (fun rec => by simp only [runStep, FSt.at, hl, hr]), h E h1 h2 h3⟩

/-- A loop, by a measure. -/
theorem WP.inv {c : Code} (I : Nat → Kno → LH → Prop) {n : Nat} (h0 : I n g H)
    (hs : ∀ n g H, I n g H → (∀ m g' H', m < n → I m g' H' → WP P σ (.inLoop c :: k) g' H' Q) → WP P σ (.code c :: .inLoop c :: k) g H Q) : WP P σ (.inLoop c :: k) g H Q := by
  induction n using Nat.strongRecOn generalizing g H with
  | ind n ih => exact (hs n g H h0 fun m g' H' hm hI => ih m hm hI).again
end

/-! ### operations -/
/-- The operation comes to this, by what is known. -/
def LK (P : Program) (G : Nat) (g : Kno) (H : LH) (op : Op) (r : OR) : Prop := ∀ (E : Env) (o : Oper), E.g = G → EK g E → o.op = op → lop P E H o = some r

structure SOp where
  op : Op
  dst : Option Nat
  guard : Option (Nat × Bool)

def slim1 (ops : Array Oper) (o : Oper) : SOp := ⟨o.op, o.dst, o.guard.map fun p => ((((ops[p.1]?).bind (·.dst)).getD 4294967296), p.2)⟩
def dstOk (N : Nat) (d : Option Nat) : Bool := match d with | some t => decide (t < N) | none => true

/-- The operations of a region, one after the other. -/
def WS (P : Program) (σ : FSt) (l : List SOp) (k : List LItem) (g : Kno) (H : LH) (Q : FR → Prop) : Prop :=
  ∀ (ops : Array Oper) (l' : List Oper), l'.map (slim1 ops) = l → (∀ o ∈ l', dstOk σ.N o.dst = true) → WP P σ (.ops ops l' :: k) g H Q

class RegOps (c : Code) (N : Nat) (l : outParam (List SOp)) : Prop where
  out : ∃ id ops, c = .region id ops false ∧ ops.toList.map (slim1 ops) = l ∧ (ops.toList.all fun o => dstOk N o.dst) = true

section
variable {σ : FSt} {k : List LItem} {g : Kno} {H : LH} {Q : FR → Prop} {l : List SOp}

theorem WP.region {c : Code} {N : Nat} [h : RegOps c N l] (hN : σ.N = N) (hw : WS P σ l k g H Q) : WP P σ (.code c :: k) g H Q := by
  obtain ⟨id, ops, rfl, h1, h2⟩ := h.out
  subst hN
  exact (hw ops ops.toList h1 (by rw [List.all_eq_true] at h2; exact h2)).go fun E rec r _ _ _ hr => hr

theorem WS.nil (h : WP P σ k g H Q) : WS P σ [] k g H Q := by
  intro ops l' h1 _
  obtain rfl : l' = [] := by simpa using h1
  exact h.go fun E rec r _ _ _ hr => hr

def addK (d : Option Nat) (v : LV) (g : Kno) : Kno := match d with | some k => (k, v) :: g | none => g

theorem EK.putO {E : Env} (h : EK g E) {N : Nat} (hN : E.n = N) {d : Option Nat} (hd : dstOk N d = true) (v : LV) : EK (addK d v g) (E.putO d v) := by
  cases d with
  | none => exact h
  | some k => exact h.put (by subst hN; simpa [dstOk] using hd) v

/-- The guard is known to say yes; to say no. -/
def gk (g : Kno) : Option (Nat × Bool) → Bool
  | none => true
  | some (s, w) => Nat.ble s 4294967295 && (match lk g s with | some (.bool b) => b == w | _ => false)
def gkn (g : Kno) : Option (Nat × Bool) → Bool
  | none => false
  | some (s, w) => Nat.ble s 4294967295 && (match lk g s with | some (.bool b) => b != w | some (.tuple _) => true | _ => false)

theorem slim_op {ops : Array Oper} {o : Oper} {so : SOp} (h : slim1 ops o = so) : o.op = so.op ∧ o.dst = so.dst := by subst h; exact ⟨rfl, rfl⟩
theorem slim_at {ops : Array Oper} {o : Oper} {so : SOp} (h : slim1 ops o = so) {s : Nat} {w b : Bool} {E : Env} (hg : so.guard = some (s, w)) (hs : Nat.ble s 4294967295 = true) (hE : E.get s = some (.bool b)) :
    wantedL ops E o = some (b == w) := by
  subst h
  have hs := Nat.le_of_ble_eq_true hs
  have hg' : (o.guard.map fun p => ((((ops[p.1]?).bind (·.dst)).getD 4294967296), p.2)) = some (s, w) := hg
  obtain ⟨⟨j, w'⟩, h1, h2⟩ := Option.map_eq_some_iff.1 hg'
  simp only [Prod.mk.injEq] at h2
  obtain ⟨h2, rfl⟩ := h2
  simp only [wantedL, h1]
  cases hd : (ops[j]?).bind (·.dst) with
  | none => rw [hd, Option.getD_none] at h2; have h3 : (4294967296 : Nat) = s := h2; omega
  | some t =>
    rw [hd, Option.getD_some] at h2
    subst h2
    simp only [Option.bind_some, hE]
theorem slim_un {ops : Array Oper} {o : Oper} {so : SOp} (h : slim1 ops o = so) {s : Nat} {w : Bool} {vs : List LV} {E : Env} (hg : so.guard = some (s, w)) (hs : Nat.ble s 4294967295 = true) (hE : E.get s = some (.tuple vs)) :
    wantedL ops E o = some false := by
  subst h
  have hs := Nat.le_of_ble_eq_true hs
  have hg' : (o.guard.map fun p => ((((ops[p.1]?).bind (·.dst)).getD 4294967296), p.2)) = some (s, w) := hg
  obtain ⟨⟨j, w'⟩, h1, h2⟩ := Option.map_eq_some_iff.1 hg'
  simp only [Prod.mk.injEq] at h2
  obtain ⟨h2, rfl⟩ := h2
  simp only [wantedL, h1]
  cases hd : (ops[j]?).bind (·.dst) with
  | none => rw [hd, Option.getD_none] at h2; have h3 : (4294967296 : Nat) = s := h2; omega
  | some t =>
    rw [hd, Option.getD_some] at h2
    subst h2
    simp only [Option.bind_some, hE]
theorem slim_yes {ops : Array Oper} {o : Oper} {so : SOp} (h : slim1 ops o = so) {E : Env} (he : EK g E) (hk : gk g so.guard = true) : wantedL ops E o = some true := by
  cases hg : so.guard with
  | none =>
    subst h
    have hg' : (o.guard.map fun p => ((((ops[p.1]?).bind (·.dst)).getD 4294967296), p.2)) = none := hg
    simp only [wantedL, Option.map_eq_none_iff.1 hg']
  | some p =>
    obtain ⟨s, w⟩ := p
    rw [hg] at hk
    simp only [gk, Bool.and_eq_true] at hk
    obtain ⟨h1, h2⟩ := hk
    split at h2
    · rename_i b hb
      rw [slim_at h hg h1 (he s _ hb), h2]
    · cases h2
theorem slim_no {ops : Array Oper} {o : Oper} {so : SOp} (h : slim1 ops o = so) {E : Env} (he : EK g E) (hk : gkn g so.guard = true) : wantedL ops E o = some false := by
  cases hg : so.guard with
  | none => rw [hg] at hk; cases hk
  | some p =>
    obtain ⟨s, w⟩ := p
    rw [hg] at hk
    simp only [gkn, Bool.and_eq_true] at hk
    obtain ⟨h1, h2⟩ := hk
    split at h2
    · rename_i b hb
      rw [slim_at h hg h1 (he s _ hb)]
      simp only [bne, Bool.not_eq_true'] at h2
      rw [h2]
    · rename_i vs hb
      exact slim_un h hg h1 (he s _ hb)
    · cases h2

theorem WS.cons_cases {so : SOp} (h : ∀ (ops : Array Oper) (o : Oper) (l' : List Oper), slim1 ops o = so → l'.map (slim1 ops) = l → dstOk σ.N so.dst = true →
    (∀ o ∈ l', dstOk σ.N o.dst = true) → WP P σ (.ops ops (o :: l') :: k) g H Q) : WS P σ (so :: l) k g H Q := by
  intro ops l' h1 h2
  cases l' with
  | nil => simp at h1
  | cons o l' =>
    simp only [List.map_cons, List.cons.injEq] at h1
    obtain ⟨h1, h3⟩ := h1
    have hd : o.dst = so.dst := (slim_op h1).2
    exact h ops o l' h1 h3 (by rw [← hd]; exact h2 o List.mem_cons_self) (fun o' ho' => h2 o' (List.mem_cons_of_mem _ ho'))

theorem WP.next {K K' : List LItem} {g' : Kno} {H' : LH} {σ' : FSt} (h : WP P σ' K' g' H' Q) (hn : σ'.N = σ.N) (hg : σ'.G = σ.G) (f : Env → Env) (hf : ∀ E, E.n = σ.N → E.g = σ.G → EK g E → (f E).n = σ.N ∧ (f E).g = σ.G ∧ EK g' (f E))
    (hs : ∀ E rec r, E.n = σ.N → E.g = σ.G → EK g E → rec (.frame K' (σ'.at (f E) H')) = some (.fr r) → runStep P rec (.frame K (σ.at E H)) = some (.fr r)) : WP P σ K g H Q := fun E h1 h2 h3 => by
  obtain ⟨f1, f2, f3⟩ := hf E h1 h2 h3
  obtain ⟨r, hr, hQ⟩ := h (f E) (by rw [hn]; exact f1) (by rw [hg]; exact f2) f3
  exact ⟨r, hr.of fun rec hrec => hs E rec r h1 h2 h3 hrec, hQ⟩

theorem putO_ok {N G : Nat} {d : Option Nat} (hd : dstOk N d = true) (v : LV) : ∀ E : Env, E.n = N → E.g = G → EK g E → (E.putO d v).n = N ∧ (E.putO d v).g = G ∧ EK (addK d v g) (E.putO d v) :=
  fun E h1 h2 h3 => ⟨by rw [Env.n_putO]; exact h1, by rw [Env.g_putO]; exact h2, h3.putO h1 hd v⟩

theorem WS.val {op : Op} {d : Option Nat} {gd : Option (Nat × Bool)} {v : LV} {H' : LH} (hg : gk g gd = true) (hl : LK P σ.G g H op (.val v H')) (h : WS P σ l k (addK d v g) H' Q) : WS P σ (⟨op, d, gd⟩ :: l) k g H Q := by
  refine WS.cons_cases fun ops o l' h1 h2 h3 h4 => ?_
  obtain ⟨s1, s2⟩ := slim_op h1
  refine (h ops l' h2 h4).next rfl rfl (fun E => E.putO d v) (putO_ok h3 v) fun E rec r e1 e2 e3 hr => ?_
  simp only [runStep]
  rw [show wantedL ops (σ.at E H).E o = some true from slim_yes h1 e3 hg]
  simp only
  rw [show lop P (σ.at E H).E (σ.at E H).H o = some (.val v H') from hl E o e2 e3 s1, s2]
  exact hr

theorem WS.skip {op : Op} {d : Option Nat} {gd : Option (Nat × Bool)} {H' : LH} (hg : gk g gd = true) (hl : LK P σ.G g H op (.skip H')) (h : WS P σ l k (addK d undefV g) H' Q) : WS P σ (⟨op, d, gd⟩ :: l) k g H Q := by
  refine WS.cons_cases fun ops o l' h1 h2 h3 h4 => ?_
  obtain ⟨s1, s2⟩ := slim_op h1
  refine (h ops l' h2 h4).next rfl rfl (fun E => E.putO d undefV) (putO_ok h3 undefV) fun E rec r e1 e2 e3 hr => ?_
  simp only [runStep]
  rw [show wantedL ops (σ.at E H).E o = some true from slim_yes h1 e3 hg]
  simp only
  rw [show lop P (σ.at E H).E (σ.at E H).H o = some (.skip H') from hl E o e2 e3 s1, s2]
  exact hr

/-- An operation whose guard says no. -/
theorem WS.no {op : Op} {d : Option Nat} {gd : Option (Nat × Bool)} (hg : gkn g gd = true) (h : WS P σ l k (addK d undefV g) H Q) : WS P σ (⟨op, d, gd⟩ :: l) k g H Q := by
  refine WS.cons_cases fun ops o l' h1 h2 h3 h4 => ?_
  obtain ⟨s1, s2⟩ := slim_op h1
  refine (h ops l' h2 h4).next rfl rfl (fun E => E.putO d undefV) (putO_ok h3 undefV) fun E rec r e1 e2 e3 hr => ?_
  simp only [runStep]
  rw [show wantedL ops (σ.at E H).E o = some false from slim_no h1 e3 hg]
  simp only
  rw [s2]
  exact hr

theorem EK.again {E : Env} (h : EK g E) {s : Nat} {v : LV} (hs : lk g s = some v) : EK ((s, v) :: g) E := fun j u hj => by
  simp only [lk] at hj
  cases e : Nat.beq s j with
  | true => rw [e] at hj; have := Nat.eq_of_beq_eq_true e; subst this; cases hj; exact h _ _ hs
  | false => rw [e] at hj; exact h j u hj
theorem WS.again {s : Nat} {v : LV} (hs : lk g s = some v) (h : WS P σ l k ((s, v) :: g) H Q) : WS P σ l k g H Q :=
  fun ops l' h1 h2 E e1 e2 e3 => h ops l' h1 h2 E e1 e2 (e3.again hs)

/-- A guard that may say either. -/
theorem WS.guard {op : Op} {d : Option Nat} {s : Nat} {w b : Bool} (hg : lk g s = some (.bool b))
    (ht : b = w → WS P σ (⟨op, d, some (s, w)⟩ :: l) k ((s, .bool w) :: g) H Q) (hf : b = (!w) → WS P σ (⟨op, d, some (s, w)⟩ :: l) k ((s, .bool (!w)) :: g) H Q) : WS P σ (⟨op, d, some (s, w)⟩ :: l) k g H Q := by
  by_cases e : b = w
  · subst e; exact (ht rfl).again hg
  · have e : b = (!w) := by cases b <;> cases w <;> simp_all
    subst e; exact (hf rfl).again hg

/-- A call comes to this. -/
def CallP (P : Program) (f : Nat) (args : List LV) (H : LH) (R : LOut → LH → Prop) : Prop := ∃ o H', Kw P (.call f args H) (.out o H') ∧ R o H'
def RoundP (P : Program) (l : Nat) (args : List LV) (H : LH) (R : LOut → LH → Prop) : Prop := ∃ o H', Kw P (.round l args H) (.out o H') ∧ R o H'
theorem CallP.mono {f : Nat} {args : List LV} {R R' : LOut → LH → Prop} (h : CallP P f args H R) (hr : ∀ o H', R o H' → R' o H') : CallP P f args H R' := by
  obtain ⟨o, H', h1, h2⟩ := h; exact ⟨o, H', h1, hr _ _ h2⟩
theorem RoundP.mono {f : Nat} {args : List LV} {R R' : LOut → LH → Prop} (h : RoundP P f args H R) (hr : ∀ o H', R o H' → R' o H') : RoundP P f args H R' := by
  obtain ⟨o, H', h1, h2⟩ := h; exact ⟨o, H', h1, hr _ _ h2⟩

/-- What a call leaves behind it, in a region. -/
def Then (P : Program) (σ : FSt) (l : List SOp) (k : List LItem) (d : Option Nat) (g : Kno) (Q : FR → Prop) : LOut → LH → Prop
  | .ret v, H' => WS P σ l k (addK d v g) H' Q
  | .panic v, H' => ∀ E, E.n = σ.N → E.g = σ.G → EK g E → Q (.panic v (σ.at E H'))

theorem WS.call {op : Op} {d : Option Nat} {gd : Option (Nat × Bool)} {f : Nat} {args : List LV} (hg : gk g gd = true) (hl : LK P σ.G g H op (.call f args)) (h : CallP P f args H (Then P σ l k d g Q)) : WS P σ (⟨op, d, gd⟩ :: l) k g H Q := by
  refine WS.cons_cases fun ops o l' h1 h2 h3 h4 => ?_
  obtain ⟨s1, s2⟩ := slim_op h1
  obtain ⟨out, H', hc, hth⟩ := h
  intro E e1 e2 e3
  have hw : wantedL ops (σ.at E H).E o = some true := slim_yes h1 e3 hg
  have hlo : lop P (σ.at E H).E (σ.at E H).H o = some (.call f args) := hl E o e2 e3 s1
  cases out with
  | ret v =>
    obtain ⟨f1, f2, f3⟩ := putO_ok (d := d) h3 v E e1 e2 e3
    obtain ⟨r, hr, hQ⟩ := hth ops l' h2 h4 (E.putO d v) f1 f2 f3
    refine ⟨r, hc.of2 hr fun rec r1 r2 => ?_, hQ⟩
    simp only [runStep]
    rw [hw]
    simp only
    rw [hlo]
    simp only
    rw [show rec (.call f args (σ.at E H).H) = _ from r1, s2]
    exact r2
  | panic v =>
    refine ⟨_, hc.of fun rec r1 => ?_, hth E e1 e2 e3⟩
    simp only [runStep]
    rw [hw]
    simp only
    rw [hlo]
    simp only
    rw [show rec (.call f args (σ.at E H).H) = _ from r1]
    rfl

theorem WS.round {op : Op} {d : Option Nat} {gd : Option (Nat × Bool)} {f : Nat} {args : List LV} (hg : gk g gd = true) (hl : LK P σ.G g H op (.round f args)) (h : RoundP P f args H (Then P σ l k d g Q)) : WS P σ (⟨op, d, gd⟩ :: l) k g H Q := by
  refine WS.cons_cases fun ops o l' h1 h2 h3 h4 => ?_
  obtain ⟨s1, s2⟩ := slim_op h1
  obtain ⟨out, H', hc, hth⟩ := h
  intro E e1 e2 e3
  have hw : wantedL ops (σ.at E H).E o = some true := slim_yes h1 e3 hg
  have hlo : lop P (σ.at E H).E (σ.at E H).H o = some (.round f args) := hl E o e2 e3 s1
  cases out with
  | ret v =>
    obtain ⟨f1, f2, f3⟩ := putO_ok (d := d) h3 v E e1 e2 e3
    obtain ⟨r, hr, hQ⟩ := hth ops l' h2 h4 (E.putO d v) f1 f2 f3
    refine ⟨r, hc.of2 hr fun rec r1 r2 => ?_, hQ⟩
    simp only [runStep]
    rw [hw]
    simp only
    rw [hlo]
    simp only
    rw [show rec (.round f args (σ.at E H).H) = _ from r1, s2]
    exact r2
  | panic v =>
    refine ⟨_, hc.of fun rec r1 => ?_, hth E e1 e2 e3⟩
    simp only [runStep]
    rw [hw]
    simp only
    rw [hlo]
    simp only
    rw [show rec (.round f args (σ.at E H).H) = _ from r1]
    rfl

theorem WS.panic {op : Op} {d : Option Nat} {gd : Option (Nat × Bool)} {v : LV} (hg : gk g gd = true) (hl : LK P σ.G g H op (.panic v)) (h : ∀ E, E.n = σ.N → E.g = σ.G → EK g E → Q (.panic v (σ.at E H))) : WS P σ (⟨op, d, gd⟩ :: l) k g H Q := by
  refine WS.cons_cases fun ops o l' h1 h2 h3 h4 => ?_
  obtain ⟨s1, s2⟩ := slim_op h1
  intro E e1 e2 e3
  refine ⟨_, Kw.now fun rec => ?_, h E e1 e2 e3⟩
  simp only [runStep]
  rw [show wantedL ops (σ.at E H).E o = some true from slim_yes h1 e3 hg]
  simp only
  rw [show lop P (σ.at E H).E (σ.at E H).H o = some (.panic v) from hl E o e2 e3 s1]

theorem WS.defer {op : Op} {d : Option Nat} {gd : Option (Nat × Bool)} {df : LDef} (hr : σ.rnd = none) (hg : gk g gd = true) (hl : LK P σ.G g H op (.defer df)) (h : WS P { σ with D := df :: σ.D } l k (addK d undefV g) H Q) : WS P σ (⟨op, d, gd⟩ :: l) k g H Q := by
  refine WS.cons_cases fun ops o l' h1 h2 h3 h4 => ?_
  obtain ⟨s1, s2⟩ := slim_op h1
  refine (h ops l' h2 h4).next rfl rfl (fun E => E.putO d undefV) (putO_ok h3 undefV) fun E rec r e1 e2 e3 hrr => ?_
  simp only [runStep]
  rw [show wantedL ops (σ.at E H).E o = some true from slim_yes h1 e3 hg]
  simp only
  rw [show lop P (σ.at E H).E (σ.at E H).H o = some (.defer df) from hl E o e2 e3 s1, s2]
  simp only [FSt.at, hr]
  simp only [FSt.at, hr] at hrr
  exact hrr

/-- recover() where there is a panic that is not recovered yet. -/
theorem WS.recov {op : Op} {d : Option Nat} {gd : Option (Nat × Bool)} {v : LV} (hr : σ.rnd = none) (hp : σ.pan = some (v, false)) (hg : gk g gd = true) (hl : LK P σ.G g H op .recov)
    (h : WS P { σ with pan := some (v, true) } l k (addK d v g) H Q) : WS P σ (⟨op, d, gd⟩ :: l) k g H Q := by
  refine WS.cons_cases fun ops o l' h1 h2 h3 h4 => ?_
  obtain ⟨s1, s2⟩ := slim_op h1
  refine (h ops l' h2 h4).next rfl rfl (fun E => E.putO d v) (putO_ok h3 v) fun E rec r e1 e2 e3 hrr => ?_
  simp only [runStep]
  rw [show wantedL ops (σ.at E H).E o = some true from slim_yes h1 e3 hg]
  simp only
  rw [show lop P (σ.at E H).E (σ.at E H).H o = some .recov from hl E o e2 e3 s1, s2]
  simp only [FSt.at, hr, hp]
  simp only [FSt.at, hr] at hrr
  exact hrr
theorem WS.recov_none {op : Op} {d : Option Nat} {gd : Option (Nat × Bool)} (hr : σ.rnd = none) (hp : σ.pan = none) (hg : gk g gd = true) (hl : LK P σ.G g H op .recov)
    (h : WS P σ l k (addK d .nilIface g) H Q) : WS P σ (⟨op, d, gd⟩ :: l) k g H Q := by
  refine WS.cons_cases fun ops o l' h1 h2 h3 h4 => ?_
  obtain ⟨s1, s2⟩ := slim_op h1
  refine (h ops l' h2 h4).next rfl rfl (fun E => E.putO d .nilIface) (putO_ok h3 .nilIface) fun E rec r e1 e2 e3 hrr => ?_
  simp only [runStep]
  rw [show wantedL ops (σ.at E H).E o = some true from slim_yes h1 e3 hg]
  simp only
  rw [show lop P (σ.at E H).E (σ.at E H).H o = some .recov from hl E o e2 e3 s1, s2]
  simp only [FSt.at, hr, hp]
  simp only [FSt.at, hr, hp] at hrr
  exact hrr
end

/-! ### regions that draw their order (no pair whose order matters) -/
def DK (P : Program) (ops : Array Oper) (chk : Bool) (l : List Oper) (j : Nat) (recs : List DRec) (S : FS) (r : FR) : Prop := ∃ n, drun P (runK P Known.kn n) ops chk l j recs S = some r
def DEnd (P : Program) (k : List LItem) (Q : FR → Prop) : FR → Prop
  | .ret S => ∃ r, Kw P (.frame k S) (.fr r) ∧ Q r
  | .panic v S => Q (.panic v S)
  | .jump _ _ => False
/-- Does each operation stand ahead of the last one? -/
def lastOk (ops : Array Oper) : Bool := (List.range (ops.size - 1)).all fun i => ahead (Region.before ops) i (ops.size - 1)
def atOk (la : Bool) (ops : Array Oper) (l' : List Oper) (j : Nat) : Prop := j + l'.length = ops.size ∧ (la = true → lastOk ops = true)
theorem atOk.step {la : Bool} {ops : Array Oper} {o : Oper} {l' : List Oper} {j : Nat} (h : atOk la ops (o :: l') j) : atOk la ops l' (j + 1) := ⟨by have := h.1; simp at this; omega, h.2⟩
theorem atOk.last {la : Bool} {ops : Array Oper} {o : Oper} {j : Nat} (h : atOk la ops [o] j) (hl : la = true) : ((List.range j).all fun i => ahead (Region.before ops) i j) = true := by
  have h1 := h.1
  have h2 := h.2 hl
  simp at h1
  unfold lastOk at h2
  rw [← h1, Nat.add_sub_cancel] at h2
  exact h2
def WD (P : Program) (σ : FSt) (la : Bool) (l : List SOp) (k : List LItem) (g : Kno) (H : LH) (Q : FR → Prop) : Prop :=
  ∀ (ops : Array Oper) (l' : List Oper) (j : Nat) (recs : List DRec), l'.map (slim1 ops) = l → (∀ o ∈ l', dstOk σ.N o.dst = true) → makesOk P ops = true ∧ atOk la ops l' j →
    ∀ E, E.n = σ.N → E.g = σ.G → EK g E → ∃ r, DK P ops false l' j recs (σ.at E H) r ∧ DEnd P k Q r

class RegDraw (P : Program) (c : Code) (N : Nat) (la : outParam Bool) (l : outParam (List SOp)) : Prop where
  out : ∃ id ops, c = .region id ops true ∧ ops.toList.map (slim1 ops) = l ∧ (ops.toList.all fun o => dstOk N o.dst) = true ∧ (!(confl P ops).isEmpty) = false ∧ makesOk P ops = true ∧ lastOk ops = la

section
variable {σ : FSt} {k : List LItem} {g : Kno} {H : LH} {Q : FR → Prop} {l : List SOp} {la : Bool}

theorem WP.draw {c : Code} {N : Nat} [h : RegDraw P c N la l] (hN : σ.N = N) (hw : WD P σ la l k g H Q) : WP P σ (.code c :: k) g H Q := by
  obtain ⟨id, ops, rfl, h1, h2, h3, h4, h5⟩ := h.out
  subst hN
  intro E e1 e2 e3
  obtain ⟨r, ⟨n, hn⟩, hr⟩ := hw ops ops.toList 0 [] h1 (by rw [List.all_eq_true] at h2; exact h2) ⟨h4, by simp, fun hl => by rw [h5]; exact hl⟩ E e1 e2 e3
  cases r with
  | jump j S => exact hr.elim
  | panic v S =>
    refine ⟨_, ⟨n + 1, ?_⟩, hr⟩
    refine Kw.step' rfl ?_
    simp only [runStep]
    rw [h3, hn]
  | ret S =>
    obtain ⟨r, ⟨m, hm⟩, hQ⟩ := hr
    refine ⟨r, ⟨max n m + 1, ?_⟩, hQ⟩
    refine Kw.step' rfl ?_
    simp only [runStep]
    rw [h3, drun_mono (runK_le (Nat.le_max_left n m)) _ _ _ _ _ hn]
    exact runK_le (Nat.le_max_right n m) _ _ hm

theorem WD.nil (h : WP P σ k g H Q) : WD P σ la [] k g H Q := by
  intro ops l' j recs h1 _ _ E e1 e2 e3
  obtain rfl : l' = [] := by simpa using h1
  obtain ⟨r, hr, hQ⟩ := h E e1 e2 e3
  exact ⟨_, ⟨0, rfl⟩, r, hr, hQ⟩

theorem WD.cons_cases {so : SOp} (h : ∀ (ops : Array Oper) (o : Oper) (l' : List Oper) (j : Nat) (recs : List DRec), slim1 ops o = so → l'.map (slim1 ops) = l → dstOk σ.N so.dst = true →
    (∀ o ∈ l', dstOk σ.N o.dst = true) → (makesOk P ops = true ∧ atOk la ops (o :: l') j) → ∀ E, E.n = σ.N → E.g = σ.G → EK g E → ∃ r, DK P ops false (o :: l') j recs (σ.at E H) r ∧ DEnd P k Q r) : WD P σ la (so :: l) k g H Q := by
  intro ops l' j recs h1 h2 h3
  cases l' with
  | nil => simp at h1
  | cons o l' =>
    simp only [List.map_cons, List.cons.injEq] at h1
    obtain ⟨h1, h4⟩ := h1
    have hd : o.dst = so.dst := (slim_op h1).2
    exact h ops o l' j recs h1 h4 (by rw [← hd]; exact h2 o List.mem_cons_self) (fun o' ho' => h2 o' (List.mem_cons_of_mem _ ho')) h3

theorem hidU_ok {ops : Array Oper} {E : Env} {j : Nat} {o : Oper} (h : makesOk P ops = true) : hidU P ops E j o = some [] := by
  unfold hidU; rw [h, Bool.or_true, if_pos rfl]

theorem WD.val {op : Op} {d : Option Nat} {gd : Option (Nat × Bool)} {v : LV} {H' : LH} (hg : gk g gd = true) (hl : LK P σ.G g H op (.val v H')) (h : WD P σ la l k (addK d v g) H' Q) : WD P σ la (⟨op, d, gd⟩ :: l) k g H Q := by
  refine WD.cons_cases fun ops o l' j recs h1 h2 h3 h4 h5 E e1 e2 e3 => ?_
  obtain ⟨s1, s2⟩ := slim_op h1
  obtain ⟨f1, f2, f3⟩ := putO_ok (d := d) h3 v E e1 e2 e3
  have hw : wantedL ops (σ.at E H).E o = some true := slim_yes h1 e3 hg
  have hlo : lop P (σ.at E H).E (σ.at E H).H o = some (.val v H') := hl E o e2 e3 s1
  have key : ∀ recs, ∃ r, DK P ops false l' (j + 1) recs { (σ.at E H) with E := (σ.at E H).E.putO o.dst v, H := H' } r ∧ DEnd P k Q r := fun recs => by
    rw [s2]; exact h ops l' (j + 1) recs h2 h4 ⟨h5.1, h5.2.step⟩ (E.putO d v) f1 f2 f3
  obtain ⟨r, ⟨n, hn⟩, hr⟩ := key recs
  refine ⟨r, ⟨n, ?_⟩, hr⟩
  simp only [drun, hw, hidU_ok h5.1, LH.hide, LH.back, hlo]
  cases okind P o <;> simpa using hn

theorem WD.skip {op : Op} {d : Option Nat} {gd : Option (Nat × Bool)} {H' : LH} (hg : gk g gd = true) (hl : LK P σ.G g H op (.skip H')) (hm : ∀ o : Oper, o.op = op → okind P o = .mut) (h : WD P σ la l k (addK d undefV g) H' Q) : WD P σ la (⟨op, d, gd⟩ :: l) k g H Q := by
  refine WD.cons_cases fun ops o l' j recs h1 h2 h3 h4 h5 E e1 e2 e3 => ?_
  obtain ⟨s1, s2⟩ := slim_op h1
  obtain ⟨f1, f2, f3⟩ := putO_ok (d := d) h3 undefV E e1 e2 e3
  have hw : wantedL ops (σ.at E H).E o = some true := slim_yes h1 e3 hg
  have hlo : lop P (σ.at E H).E (σ.at E H).H o = some (.skip H') := hl E o e2 e3 s1
  have key : ∃ r, DK P ops false l' (j + 1) recs { (σ.at E H) with E := (σ.at E H).E.putO o.dst undefV, H := H' } r ∧ DEnd P k Q r := by
    rw [s2]; exact h ops l' (j + 1) recs h2 h4 ⟨h5.1, h5.2.step⟩ (E.putO d undefV) f1 f2 f3
  obtain ⟨r, ⟨n, hn⟩, hr⟩ := key
  refine ⟨r, ⟨n, ?_⟩, hr⟩
  simp only [drun, hw, hidU_ok h5.1, LH.hide, LH.back, hlo, hm o s1]
  simpa using hn

theorem WD.no {op : Op} {d : Option Nat} {gd : Option (Nat × Bool)} (hg : gkn g gd = true) (h : WD P σ la l k (addK d undefV g) H Q) : WD P σ la (⟨op, d, gd⟩ :: l) k g H Q := by
  refine WD.cons_cases fun ops o l' j recs h1 h2 h3 h4 h5 E e1 e2 e3 => ?_
  obtain ⟨s1, s2⟩ := slim_op h1
  obtain ⟨f1, f2, f3⟩ := putO_ok (d := d) h3 undefV E e1 e2 e3
  have hw : wantedL ops (σ.at E H).E o = some false := slim_no h1 e3 hg
  have key : ∃ r, DK P ops false l' (j + 1) recs { (σ.at E H) with E := (σ.at E H).E.putO o.dst undefV } r ∧ DEnd P k Q r := by
    rw [s2]; exact h ops l' (j + 1) recs h2 h4 ⟨h5.1, h5.2.step⟩ (E.putO d undefV) f1 f2 f3
  obtain ⟨r, ⟨n, hn⟩, hr⟩ := key
  refine ⟨r, ⟨n, ?_⟩, hr⟩
  simp only [drun, hw]
  exact hn

theorem WD.again {s : Nat} {v : LV} (hs : lk g s = some v) (h : WD P σ la l k ((s, v) :: g) H Q) : WD P σ la l k g H Q :=
  fun ops l' j recs h1 h2 h3 E e1 e2 e3 => h ops l' j recs h1 h2 h3 E e1 e2 (e3.again hs)
theorem WD.guard {op : Op} {d : Option Nat} {s : Nat} {w b : Bool} (hg : lk g s = some (.bool b))
    (ht : b = w → WD P σ la (⟨op, d, some (s, w)⟩ :: l) k ((s, .bool w) :: g) H Q) (hf : b = (!w) → WD P σ la (⟨op, d, some (s, w)⟩ :: l) k ((s, .bool (!w)) :: g) H Q) : WD P σ la (⟨op, d, some (s, w)⟩ :: l) k g H Q := by
  by_cases e : b = w
  · subst e; exact (ht rfl).again hg
  · have e : b = (!w) := by cases b <;> cases w <;> simp_all
    subst e; exact (hf rfl).again hg

def ThenD (P : Program) (σ : FSt) (la : Bool) (l : List SOp) (k : List LItem) (d : Option Nat) (g : Kno) (Q : FR → Prop) : LOut → LH → Prop
  | .ret v, H' => WD P σ la l k (addK d v g) H' Q
  | .panic v, H' => (la = true ∧ l = []) ∧ ∀ E, E.n = σ.N → E.g = σ.G → EK g E → Q (.panic v (σ.at E H'))

theorem WD.call {op : Op} {d : Option Nat} {gd : Option (Nat × Bool)} {f : Nat} {args : List LV} (hg : gk g gd = true) (hl : LK P σ.G g H op (.call f args)) (hm : ∀ o : Oper, o.op = op → okind P o = .mut) (h : CallP P f args H (ThenD P σ la l k d g Q)) : WD P σ la (⟨op, d, gd⟩ :: l) k g H Q := by
  refine WD.cons_cases fun ops o l' j recs h1 h2 h3 h4 h5 E e1 e2 e3 => ?_
  obtain ⟨s1, s2⟩ := slim_op h1
  obtain ⟨out, H', ⟨m, hc⟩, hth⟩ := h
  have hw : wantedL ops (σ.at E H).E o = some true := slim_yes h1 e3 hg
  have hlo : lop P (σ.at E H).E (σ.at E H).H o = some (.call f args) := hl E o e2 e3 s1
  cases out with
  | panic v =>
    obtain ⟨⟨hlk, rfl⟩, hQ⟩ := hth
    obtain rfl : l' = [] := by simpa using h2
    refine ⟨.panic v (σ.at E H'), ⟨m, ?_⟩, hQ E e1 e2 e3⟩
    have hc' : runK P Known.kn m (.call f args (σ.at E H).H) = some (.out (.panic v) H') := hc
    have hla := h5.2.last hlk
    simp only [drun, hw, hidU_ok h5.1, LH.hide, LH.back, hlo, hm o s1, hc', List.isEmpty_nil, hla, Bool.and_self, if_true]
    rfl
  | ret v =>
    obtain ⟨f1, f2, f3⟩ := putO_ok (d := d) h3 v E e1 e2 e3
    have key : ∃ r, DK P ops false l' (j + 1) recs { (σ.at E H) with E := (σ.at E H).E.putO o.dst v, H := H' } r ∧ DEnd P k Q r := by
      rw [s2]; exact hth ops l' (j + 1) recs h2 h4 ⟨h5.1, h5.2.step⟩ (E.putO d v) f1 f2 f3
    obtain ⟨r, ⟨n, hn⟩, hr⟩ := key
    refine ⟨r, ⟨max n m, ?_⟩, hr⟩
    have hc' : runK P Known.kn (max n m) (.call f args (σ.at E H).H) = some (.out (.ret v) H') := runK_le (Nat.le_max_right n m) _ _ hc
    have hn' := drun_mono (runK_le (P := P) (Nat.le_max_left n m)) _ _ _ _ _ hn
    simp only [drun, hw, hidU_ok h5.1, LH.hide, LH.back, hlo, hm o s1, hc']
    simpa using hn'

theorem WD.round {op : Op} {d : Option Nat} {gd : Option (Nat × Bool)} {f : Nat} {args : List LV} (hg : gk g gd = true) (hl : LK P σ.G g H op (.round f args)) (hm : ∀ o : Oper, o.op = op → okind P o = .mut) (h : RoundP P f args H (ThenD P σ la l k d g Q)) : WD P σ la (⟨op, d, gd⟩ :: l) k g H Q := by
  refine WD.cons_cases fun ops o l' j recs h1 h2 h3 h4 h5 E e1 e2 e3 => ?_
  obtain ⟨s1, s2⟩ := slim_op h1
  obtain ⟨out, H', ⟨m, hc⟩, hth⟩ := h
  have hw : wantedL ops (σ.at E H).E o = some true := slim_yes h1 e3 hg
  have hlo : lop P (σ.at E H).E (σ.at E H).H o = some (.round f args) := hl E o e2 e3 s1
  cases out with
  | panic v =>
    obtain ⟨⟨hlk, rfl⟩, hQ⟩ := hth
    obtain rfl : l' = [] := by simpa using h2
    refine ⟨.panic v (σ.at E H'), ⟨m, ?_⟩, hQ E e1 e2 e3⟩
    have hc' : runK P Known.kn m (.round f args (σ.at E H).H) = some (.out (.panic v) H') := hc
    have hla := h5.2.last hlk
    simp only [drun, hw, hidU_ok h5.1, LH.hide, LH.back, hlo, hm o s1, hc', List.isEmpty_nil, hla, Bool.and_self, if_true]
    rfl
  | ret v =>
    obtain ⟨f1, f2, f3⟩ := putO_ok (d := d) h3 v E e1 e2 e3
    have key : ∃ r, DK P ops false l' (j + 1) recs { (σ.at E H) with E := (σ.at E H).E.putO o.dst v, H := H' } r ∧ DEnd P k Q r := by
      rw [s2]; exact hth ops l' (j + 1) recs h2 h4 ⟨h5.1, h5.2.step⟩ (E.putO d v) f1 f2 f3
    obtain ⟨r, ⟨n, hn⟩, hr⟩ := key
    refine ⟨r, ⟨max n m, ?_⟩, hr⟩
    have hc' : runK P Known.kn (max n m) (.round f args (σ.at E H).H) = some (.out (.ret v) H') := runK_le (Nat.le_max_right n m) _ _ hc
    have hn' := drun_mono (runK_le (P := P) (Nat.le_max_left n m)) _ _ _ _ _ hn
    simp only [drun, hw, hidU_ok h5.1, LH.hide, LH.back, hlo, hm o s1, hc']
    simpa using hn'
end

/-! ### calls -/
section
variable {H : LH}
def DefsP (P : Program) (S : FS) (p : Option (LV × Bool)) (R : LOut → LH → Prop) : Prop := ∃ o H', Kw P (.defs S p) (.out o H') ∧ R o H'
/-- How the frame of a function hands on. -/
def Fin (P : Program) (R : LOut → LH → Prop) : FR → Prop
  | .ret S => DefsP P S none R
  | .panic v S => DefsP P S (some (v, false)) R
  | .jump _ _ => False

theorem knAt_none {f : Nat} {args : List LV} (hk : (Known.kn.find? fun x => x.f == f) = none) : knAt P Known.kn (.call f args H) = none := by
  unfold knAt
  cases args with
  | nil => simp only [hk]
  | cons a l => rfl
theorem CallP.enter {f : Nat} {fn : Func} {c : Code} {args : List LV} {R : LOut → LH → Prop} (hf : P.funcs[f]? = some fn) (hb : fn.body = some c) (hk : (Known.kn.find? fun x => x.f == f) = none) (hn : args.length ≤ fn.ntmps)
    (h : WP P { fn := f, N := fn.ntmps, G := P.globals.size } [.code c] (argsK 0 args) H (Fin P R)) : CallP P f args H R := by
  obtain ⟨n1, n2⟩ := start_n (P := P) hn
  obtain ⟨r, hr, hQ⟩ := h (Env.start P fn.ntmps args) n1 n2 start_EK
  cases r with
  | jump j S => exact hQ.elim
  | ret S =>
    obtain ⟨o, H', h1, h2⟩ := hQ
    refine ⟨o, H', hr.of2 h1 (fun rec r1 r2 => ?_) (knAt_none hk), h2⟩
    simp only [runStep, hf, hb]
    rw [show rec (.frame [.code c] { fn := f, E := Env.start P fn.ntmps args, H, D := [], rnd := none, pan := none }) = _ from r1]
    exact r2
  | panic v S =>
    obtain ⟨o, H', h1, h2⟩ := hQ
    refine ⟨o, H', hr.of2 h1 (fun rec r1 r2 => ?_) (knAt_none hk), h2⟩
    simp only [runStep, hf, hb]
    rw [show rec (.frame [.code c] { fn := f, E := Env.start P fn.ntmps args, H, D := [], rnd := none, pan := none }) = _ from r1]
    exact r2

/-- The results, by what is known. -/
def resK (P : Program) (H : LH) (g : Kno) : List ResultVar → Option (List LV)
  | [] => some []
  | r :: rs =>
    match (match r with | .tmp t => lk g t | .cell a t => (lk g a).bind (loadL P H t)), resK P H g rs with
    | some v, some vs => some (v :: vs)
    | _, _ => none
theorem resK_results {g : Kno} {E : Env} (h : EK g E) : ∀ {rs : List ResultVar} {vs : List LV}, resK P H g rs = some vs → results P H E rs = some vs
  | [], vs, hx => hx
  | r :: rs, vs, hx => by
    simp only [resK] at hx
    split at hx
    · rename_i v vs' h1 h2
      cases hx
      simp only [results, resK_results h h2]
      cases r with
      | tmp t => simp only at h1; simp only [h t v h1]
      | cell a t =>
        simp only at h1
        obtain ⟨x, hx, hy⟩ := Option.bind_eq_some_iff.1 h1
        simp only [h a x hx, Option.bind_some, hy]
    · cases hx

/-- The end of a function's frame that deferred nothing. -/
theorem Fin.ret {σ : FSt} {g : Kno} {fn : Func} {R : LOut → LH → Prop} {vs : List LV} (hD : σ.D = []) (hf : P.funcs[σ.fn]? = some fn) (hr : resK P H g fn.results.toList = some vs) (hR : R (.ret (oneOr vs)) H) :
    ∀ E, E.n = σ.N → E.g = σ.G → EK g E → Fin P R (.ret (σ.at E H)) := fun E _ _ h3 => by
  refine ⟨_, _, Kw.now fun rec => ?_, hR⟩
  simp only [runStep, FSt.at, hD, hf]
  rw [resK_results h3 hr]
  rfl
theorem Fin.panic {σ : FSt} {g : Kno} {v : LV} {R : LOut → LH → Prop} (hD : σ.D = []) (hR : R (.panic v) H) :
    ∀ E, E.n = σ.N → E.g = σ.G → EK g E → Fin P R (.panic v (σ.at E H)) := fun E _ _ h3 => by
  refine ⟨_, _, Kw.now fun rec => ?_, hR⟩
  simp only [runStep, FSt.at, hD]
end
end
end Go.Lv
