/- Lv: what a logical heap denotes, and how it goes on when the world does. -/
import Derived.Test.YthakgknamfopcaaLvDen
namespace Go.Lv
open Go
set_option linter.unusedVariables false
set_option linter.unusedSimpArgs false

/-! ### slots, deferred calls -/
structure EnvR (R : Ren) (E : Env) (tmps : Array Value) : Prop where
  size : tmps.size = E.n
  slot : ∀ k v, E.get k = some v → ∃ x, tmps[k]? = some x ∧ DV R v x
  glob : ∀ k, k < E.g → ∃ e, R k = some (k, 0, e)

def DefR (R : Ren) (d : LDef) (x : Deferred) : Prop :=
  match d.mark with
  | none => ∃ cap : Array Value, x.target = .fn d.fn cap ∧ DVs R d.captured cap.toList ∧ DVs R d.args x.args.toList
  | some i => ∃ b d e, R i = some (b, d, e) ∧ x = { target := .collected b, args := #[] }

def DefsR (R : Ren) : List LDef → List Deferred → Prop
  | [], l => l = []
  | d :: ds, l => ∃ x xs, l = x :: xs ∧ DefR R d x ∧ DefsR R ds xs

theorem EnvR.mono {R R' : Ren} {E : Env} {tmps : Array Value} (h : EnvR R E tmps) (hr : RLe R R') : EnvR R' E tmps :=
  ⟨h.size, fun k v hk => let ⟨x, hx, hd⟩ := h.slot k v hk; ⟨x, hx, DV_mono hr _ _ hd⟩, fun k hk => let ⟨e, he⟩ := h.glob k hk; ⟨e, hr _ _ he⟩⟩

theorem DefR.mono {R R' : Ren} {d : LDef} {x : Deferred} (h : DefR R d x) (hr : RLe R R') : DefR R' d x := by
  unfold DefR at h ⊢
  split at h
  · obtain ⟨cap, h1, h2, h3⟩ := h
    exact ⟨cap, h1, DVs_mono hr _ _ h2, DVs_mono hr _ _ h3⟩
  · obtain ⟨b, d, e, h1, h2⟩ := h
    exact ⟨b, d, e, hr _ _ h1, h2⟩

theorem DefsR.mono {R R' : Ren} (hr : RLe R R') : ∀ {ds : List LDef} {xs : List Deferred}, DefsR R ds xs → DefsR R' ds xs
  | [], _, h => h
  | d :: ds, _, h => by
    simp only [DefsR] at h ⊢
    obtain ⟨x, xs, rfl, h1, h2⟩ := h
    exact ⟨x, xs, rfl, h1.mono hr, h2.mono hr⟩

theorem Env.get_put (E : Env) (k j : Nat) (v : LV) : (E.put k v).get j = if j = k ∧ k < E.n then some v else E.get j := by
  unfold Env.put Env.get
  split
  · rename_i h; simp only [Tr.get_set]; by_cases e : j = k <;> simp [e, h]
  · rename_i h; rw [if_neg (fun c => h c.2)]
@[simp] theorem Env.n_put (E : Env) (k : Nat) (v : LV) : (E.put k v).n = E.n := by unfold Env.put; split <;> rfl
@[simp] theorem Env.g_put (E : Env) (k : Nat) (v : LV) : (E.put k v).g = E.g := by unfold Env.put; split <;> rfl

theorem EnvR.put {R : Ren} {E : Env} {tmps : Array Value} (h : EnvR R E tmps) (k : Nat) {v : LV} {x : Value} (hv : DV R v x) :
    EnvR R (E.put k v) (tmps.setIfInBounds k x) := by
  refine ⟨by simp [h.size], fun j u hj => ?_, by simpa using h.glob⟩
  rw [Env.get_put] at hj
  split at hj
  · rename_i hc
    obtain ⟨rfl, hlt⟩ := hc
    cases hj
    exact ⟨x, by simp [h.size, hlt], hv⟩
  · rename_i hc
    obtain ⟨y, hy, hd⟩ := h.slot j u hj
    refine ⟨y, ?_, hd⟩
    by_cases e : j = k
    · subst e
      have : j < tmps.size := (Array.getElem?_eq_some_iff.1 hy).1
      exact absurd ⟨rfl, h.size ▸ this⟩ hc
    · rw [Array.getElem?_setIfInBounds]; simp [Ne.symm e, hy]

theorem EnvR.putO {R : Ren} {E : Env} {a : Act} (h : EnvR R E a.tmps) (dst : Option Nat) {v : LV} {x : Value} (hv : DV R v x) :
    EnvR R (E.putO dst v) (a.put dst x).tmps := by
  cases dst with
  | none => exact h
  | some k => exact h.put k hv

theorem Act.put_defers' (a : Act) (dst : Option Nat) (x : Value) : (a.put dst x).defers = a.defers := by cases dst <;> rfl

theorem DV_undef {R : Ren} : DV R undefV undef := by simp [undefV, undef, DV, DVs]

theorem ev_sound {R : Ren} {E : Env} {a : Act} (h : EnvR R E a.tmps) {x : Operand} {v : LV} (hx : E.ev x = some v) : DV R v (a.eval x) := by
  cases x with
  | tmp t =>
    obtain ⟨y, hy, hd⟩ := h.slot t v hx
    have : a.tmps.getD t undef = y := by simp [Array.getD_eq_getD_getElem?, hy]
    simpa [Act.eval, this] using hd
  | const c => exact ofV_DV _ _ _ hx
  | global g =>
    simp only [Env.ev] at hx
    split at hx
    · rename_i hg
      cases hx
      obtain ⟨e, he⟩ := h.glob g hg
      simp only [DV]
      exact ⟨g, 0, e, he, by simp [Act.eval]⟩
    · cases hx
  | func f =>
    simp only [Env.ev, Option.some.injEq] at hx
    subst hx
    simp only [DV]
    exact ⟨#[], #[], by simp [Act.eval], DVs_nil, DVs_nil⟩

theorem evAll_sound {R : Ren} {E : Env} {a : Act} (h : EnvR R E a.tmps) : ∀ {xs : List Operand} {vs : List LV}, evAll E xs = some vs → DVs R vs (xs.map a.eval)
  | [], vs, hx => by simp [evAll] at hx; subst hx; exact DVs_nil
  | x :: xs, vs, hx => by
    simp only [evAll] at hx
    split at hx
    · rename_i v us hv hu
      cases hx
      exact DVs_cons (ev_sound h hv) (evAll_sound h hu)
    · cases hx

/-! ### objects -/
def LO.owns : LO → Bool
  | .cells _ _ own _ => own
  | _ => true

def EntR (R : Ren) : List (LV × LV × Nat) → List MapEntry → Prop
  | [], l => l = []
  | (k, v, n) :: es, l => ∃ x xs, l = x :: xs ∧ DV R k x.key ∧ DV R v x.val ∧ x.born = n ∧ EntR R es xs

theorem EntR.mono {R R' : Ren} (hr : RLe R R') : ∀ {es : List (LV × LV × Nat)} {xs : List MapEntry}, EntR R es xs → EntR R' es xs
  | [], _, h => h
  | (k, v, n) :: es, _, h => by
    simp only [EntR] at h ⊢
    obtain ⟨x, xs, rfl, h1, h2, h3, h4⟩ := h
    exact ⟨x, xs, rfl, DV_mono hr _ _ h1, DV_mono hr _ _ h2, h3, h4.mono hr⟩

/-- The block b of the heap h holds what the logical object says, from place d up to e. -/
def DO (R : Ren) (o : Option Obj) (d e : Nat) : LO → Prop
  | .cells cs el own _ => ∃ arr el' fr, o = some (.cells arr el' fr) ∧ d + cs.length ≤ e ∧ e ≤ arr.size ∧
      (∀ k x, cs[k]? = some x → ∃ v, arr[d + k]? = some v ∧ DV R x v) ∧
      (own = true → el' = el ∧ ∀ k, d ≤ k → k < e → ¬ (fr.1 ≤ k ∧ k < fr.2))
  | .map es clock => ∃ xs : Array MapEntry, o = some (.map xs clock) ∧ EntR R es xs.toList
  | .loop st pend fn env ps as_ body dn => ∃ tmps db dd de, o = some (.loop { state := st, pending := pend, fn, tmps, params := ps.toArray, assign := as_, body, defers := db }) ∧
      EnvR R env tmps ∧ R dn = some (db, dd, de)
  | .defd taken => o = some (.deferred (if taken then none else some []))
  | .sit s pos => o = some (.stringIter ⟨s.toArray⟩ pos)

theorem DO.mono {R R' : Ren} (hr : RLe R R') {o : Option Obj} {d e : Nat} {x : LO} (h : DO R o d e x) : DO R' o d e x := by
  cases x with
  | cells cs el own opn =>
    obtain ⟨arr, el', fr, h1, h2, h3, h4, h5⟩ := h
    exact ⟨arr, el', fr, h1, h2, h3, fun k x hx => let ⟨v, hv, hd⟩ := h4 k x hx; ⟨v, hv, DV_mono hr _ _ hd⟩, h5⟩
  | map es clock => obtain ⟨xs, h1, h2⟩ := h; exact ⟨xs, h1, h2.mono hr⟩
  | loop st pend fn env ps as_ body dn =>
    obtain ⟨tmps, db, dd, de, h1, h2, h3⟩ := h
    exact ⟨tmps, db, dd, de, h1, h2.mono hr, hr _ _ h3⟩
  | defd t => exact h
  | sit s p => exact h

structure Den (R : Ren) (H : LH) (w : World) : Prop where
  obj : ∀ i o, H.get i = some o → ∃ b d e, R i = some (b, d, e) ∧ DO R w.heap[b]? d e o
  inj : ∀ i j oi oj b d e b' d' e', H.get i = some oi → H.get j = some oj → i ≠ j → R i = some (b, d, e) → R j = some (b', d', e') → oi.owns = true → b ≠ b'

theorem DO.some {R : Ren} {o : Option Obj} {d e : Nat} {x : LO} (h : DO R o d e x) : ∃ y, o = .some y := by
  cases x with
  | cells cs el own opn => obtain ⟨arr, el', fr, h1, _⟩ := h; exact ⟨_, h1⟩
  | map es clock => obtain ⟨xs, h1, h2⟩ := h; exact ⟨_, h1⟩
  | loop st pend fn env ps as_ body dn => obtain ⟨tmps, db, dd, de, h1, h2, h3⟩ := h; exact ⟨_, h1⟩
  | defd t => exact ⟨_, h⟩
  | sit s p => exact ⟨_, h⟩

theorem DO.lt {R : Ren} {w : World} {b d e : Nat} {x : LO} (h : DO R w.heap[b]? d e x) : b < w.heap.size := by
  obtain ⟨y, hy⟩ := h.some
  exact (Array.getElem?_eq_some_iff.1 hy).1

/-! ### going on -/
def Fresh (R : Ren) (a b : Nat) : Prop := ∀ i, a ≤ i → i < b → R i = none

def Owned (R : Ren) (H : LH) (b : Nat) : Prop := ∃ i o d e, H.get i = some o ∧ o.owns = true ∧ R i = some (b, d, e)

structure Goes (R : Ren) (H : LH) (w : World) (R' : Ren) (H' : LH) (w' : World) : Prop where
  ext : RLe R R'
  dom : ∀ i x, R' i = some x → R i = some x ∨ (H.next ≤ i ∧ i < H'.next)
  next : H.next ≤ H'.next
  size : w.heap.size ≤ w'.heap.size
  keep : ∀ b, b < w.heap.size → ¬ Owned R H b → w'.heap[b]? = w.heap[b]?
  own : ∀ b, Owned R' H' b → Owned R H b ∨ w.heap.size ≤ b
  os : w'.os = w.os
  tape : w'.tape = w.tape
  output : w'.output = w.output

theorem Goes.refl (R : Ren) (H : LH) (w : World) : Goes R H w R H w :=
  ⟨RLe.refl R, fun _ _ h => .inl h, Nat.le_refl _, Nat.le_refl _, fun _ _ _ => rfl, fun _ h => .inl h, rfl, rfl, rfl⟩

theorem Goes.trans {R R' R'' : Ren} {H H' H'' : LH} {w w' w'' : World} (h : Goes R H w R' H' w') (k : Goes R' H' w' R'' H'' w'') : Goes R H w R'' H'' w'' where
  ext := h.ext.trans k.ext
  dom i x hx := by
    rcases k.dom i x hx with h1 | h1
    · rcases h.dom i x h1 with h2 | h2
      · exact .inl h2
      · exact .inr ⟨h2.1, Nat.lt_of_lt_of_le h2.2 k.next⟩
    · exact .inr ⟨Nat.le_trans h.next h1.1, h1.2⟩
  next := Nat.le_trans h.next k.next
  size := Nat.le_trans h.size k.size
  keep b hb ho := by
    rw [k.keep b (Nat.lt_of_lt_of_le hb h.size) (fun c => by
      rcases h.own b c with c | c
      · exact ho c
      · omega)]
    exact h.keep b hb ho
  own b c := by
    rcases k.own b c with c | c
    · exact h.own b c
    · exact .inr (Nat.le_trans h.size c)
  os := k.os.trans h.os
  tape := k.tape.trans h.tape
  output := k.output.trans h.output

theorem Fresh.after {R R' : Ren} {H H' : LH} {w w' : World} {n : Nat} (hf : Fresh R H.next n) (h : Goes R H w R' H' w') : Fresh R' H'.next n := by
  intro i hi hn
  cases hr : R' i with
  | none => rfl
  | some x =>
    rcases h.dom i x hr with h1 | h1
    · have := hf i (Nat.le_trans h.next hi) hn
      rw [this] at h1; cases h1
    · omega

theorem Fresh.mono {R : Ren} {a b a' b' : Nat} (h : Fresh R a b) (ha : a ≤ a') (hb : b' ≤ b) : Fresh R a' b' :=
  fun i hi hn => h i (Nat.le_trans ha hi) (Nat.lt_of_lt_of_le hn hb)

/-- One block more. -/
def Ren.put (R : Ren) (i : Nat) (x : Nat × Nat × Nat) : Ren := fun j => if j = i then some x else R j

theorem RLe_put {R : Ren} {i : Nat} {x : Nat × Nat × Nat} (h : R i = none) : RLe R (R.put i x) := by
  intro j y hj
  unfold Ren.put
  split
  · rename_i e; subst e; rw [h] at hj; cases hj
  · exact hj

theorem Ren.put_same (R : Ren) (i : Nat) (x : Nat × Nat × Nat) : R.put i x i = some x := by simp [Ren.put]

/-- The world with a new block. -/
theorem alloc_get (w : World) (o : Obj) (b : Nat) : (w.alloc o).heap[b]? = if b = w.heap.size then some o else w.heap[b]? := by
  simp only [World.alloc]
  rw [Array.getElem?_push]

theorem alloc_size (w : World) (o : Obj) : (w.alloc o).heap.size = w.heap.size + 1 := by
  show (w.heap.push o).size = _
  simp

theorem goes_new {R : Ren} {H : LH} {w : World} (hd : Den R H w) (hf : R H.next = none) (o : LO) (x : Obj) (e : Nat)
    (ho : DO (R.put H.next (w.heap.size, 0, e)) (some x) 0 e o) :
    Goes R H w (R.put H.next (w.heap.size, 0, e)) (H.new o) (w.alloc x) ∧ Den (R.put H.next (w.heap.size, 0, e)) (H.new o) (w.alloc x) := by
  have hle : RLe R (R.put H.next (w.heap.size, 0, e)) := RLe_put hf
  have hlt : ∀ i o, H.get i = some o → ∀ b d e, R i = some (b, d, e) → b < w.heap.size := by
    intro i o hi b d e hr
    obtain ⟨b', d', e', hr', hO⟩ := hd.obj i o hi
    rw [hr'] at hr; cases hr
    exact hO.lt
  have hget : ∀ i p, (H.new o).get i = some p → i ≠ H.next → H.get i = some p := by
    intro i p hi hne
    rw [LH.get_new, if_neg hne] at hi; exact hi
  have hR : ∀ i y, (R.put H.next (w.heap.size, 0, e)) i = some y → i ≠ H.next → R i = some y := by
    intro i y hi hne
    simpa [Ren.put, hne] using hi
  refine ⟨⟨hle, ?_, by simp, by simp [alloc_size], ?_, ?_, rfl, rfl, rfl⟩, ⟨?_, ?_⟩⟩
  · intro i y hy
    by_cases e1 : i = H.next
    · subst e1; exact .inr ⟨Nat.le_refl _, by simp⟩
    · exact .inl (hR i y hy e1)
  · intro b hb _
    rw [alloc_get, if_neg (by omega)]
  · rintro b ⟨i, p, d, e', hi, hp, hr⟩
    by_cases e1 : i = H.next
    · subst e1
      rw [Ren.put_same] at hr; cases hr
      exact .inr (Nat.le_refl _)
    · exact .inl ⟨i, p, d, e', hget i p hi e1, hp, hR i _ hr e1⟩
  · intro i p hi
    by_cases e1 : i = H.next
    · subst e1
      rw [LH.get_new, if_pos rfl] at hi; cases hi
      exact ⟨_, _, _, Ren.put_same _ _ _, by rw [alloc_get, if_pos rfl]; exact ho⟩
    · obtain ⟨b, d, e', hr, hO⟩ := hd.obj i p (hget i p hi e1)
      refine ⟨b, d, e', hle _ _ hr, ?_⟩
      have := hO.lt
      rw [alloc_get, if_neg (by omega)]
      exact hO.mono hle
  · intro i j oi oj b d e1 b' d' e1' hi hj hne hri hrj hown
    by_cases e2 : i = H.next
    · subst e2
      rw [Ren.put_same] at hri; cases hri
      have hj' := hget j oj hj (Ne.symm hne)
      have := hlt j oj hj' _ _ _ (hR j _ hrj (Ne.symm hne))
      omega
    · by_cases e3 : j = H.next
      · subst e3
        rw [Ren.put_same] at hrj; cases hrj
        have := hlt i oi (hget i oi hi e2) _ _ _ (hR i _ hri e2)
        omega
      · exact hd.inj i j oi oj b d e1 b' d' e1' (hget i oi hi e2) (hget j oj hj e3) hne (hR i _ hri e2) (hR j _ hrj e3) hown

/-- w' is w but for block b. -/
structure But (w w' : World) (b : Nat) : Prop where
  size : w'.heap.size = w.heap.size
  same : ∀ k, k ≠ b → w'.heap[k]? = w.heap[k]?
  os : w'.os = w.os
  tape : w'.tape = w.tape
  output : w'.output = w.output

theorem goes_put {R : Ren} {H : LH} {w w' : World} (hd : Den R H w) {i : Nat} {o o' : LO} {b d e : Nat} (hi : H.get i = some o) (ho : o.owns = true)
    (hr : R i = some (b, d, e)) (hb : But w w' b) (ho' : o'.owns = true) (hO : DO R w'.heap[b]? d e o') :
    Goes R H w R (H.put i o') w' ∧ Den R (H.put i o') w' := by
  have hget : ∀ j p, (H.put i o').get j = some p → j ≠ i → H.get j = some p := by
    intro j p hj hne
    rw [LH.get_put, if_neg hne] at hj; exact hj
  refine ⟨⟨RLe.refl R, fun _ _ h => .inl h, by simp, by rw [hb.size]; exact Nat.le_refl _, ?_, ?_, hb.os, hb.tape, hb.output⟩, ⟨?_, ?_⟩⟩
  · intro c _ hno
    exact hb.same c (fun e1 => hno ⟨i, o, d, e, hi, ho, by rw [e1]; exact hr⟩)
  · rintro c ⟨j, p, d', e', hj, hp, hrj⟩
    by_cases e1 : j = i
    · subst e1
      rw [hr] at hrj; cases hrj
      exact .inl ⟨j, o, d, e, hi, ho, hr⟩
    · exact .inl ⟨j, p, d', e', hget j p hj e1, hp, hrj⟩
  · intro j p hj
    by_cases e1 : j = i
    · subst e1
      rw [LH.get_put, if_pos rfl] at hj; cases hj
      exact ⟨b, d, e, hr, hO⟩
    · obtain ⟨b', d', e', hrj, hOj⟩ := hd.obj j p (hget j p hj e1)
      refine ⟨b', d', e', hrj, ?_⟩
      rw [hb.same b' (fun e2 => hd.inj i j o p b d e b' d' e' hi (hget j p hj e1) (Ne.symm e1) hr hrj ho e2.symm)]
      exact hOj
  · intro j k oj ok b1 d1 e1 b2 d2 e2 hj hk hne hrj hrk hown
    by_cases e3 : j = i
    · subst e3
      have hk' := hget k ok hk (Ne.symm hne)
      exact hd.inj j k o ok b1 d1 e1 b2 d2 e2 hi hk' hne hrj hrk ho
    · by_cases e4 : k = i
      · subst e4
        exact hd.inj j k oj o b1 d1 e1 b2 d2 e2 (hget j oj hj e3) hi hne hrj hrk hown
      · exact hd.inj j k oj ok b1 d1 e1 b2 d2 e2 (hget j oj hj e3) (hget k ok hk e4) hne hrj hrk hown

/-- The world has only been asked of its tape. -/
theorem goes_drew {R : Ren} {H : LH} {w : World} (hd : Den R H w) (n : Nat) : Goes R H w R H { w with drawn := n } ∧ Den R H { w with drawn := n } :=
  ⟨⟨RLe.refl R, fun _ _ h => .inl h, Nat.le_refl _, Nat.le_refl _, fun _ _ _ => rfl, fun _ h => .inl h, rfl, rfl, rfl⟩, ⟨hd.obj, hd.inj⟩⟩

end Go.Lv
