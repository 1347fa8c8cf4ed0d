/- Lv: the evaluator and the machine: frames, items, ends; steps of one operation. -/
import Derived.Test.YthakgknamfopcaaLvLgo
import Derived.RangeFuncNested
import Derived.Recover
namespace Go.Lv
open Go
set_option linter.unusedVariables false
set_option linter.unusedSimpArgs false

/-! ### what is to do -/
def ItemR (R : Ren) : LItem → Item → Prop
  | .code c, x => x = .code c
  | .ops ops rest, x => ∃ k, x = .inRegion ops (List.range' k rest.length) ∧ rest = ops.toList.drop k
  | .inBlock id, x => x = .inBlock id
  | .inLoop c, x => x = .inLoop c
  | .inScope c, x => x = .inScope c
  | .endRange l, x => ∃ b d e, R l = some (b, d, e) ∧ x = .endRangeFunc b
  | .beginRound, x => x = .beginRound

def KR (R : Ren) : List LItem → List Item → Prop
  | [], k => k = []
  | i :: is, k => ∃ x xs, k = x :: xs ∧ ItemR R i x ∧ KR R is xs

theorem ItemR.mono {R R' : Ren} (h : RLe R R') {i : LItem} {x : Item} (k : ItemR R i x) : ItemR R' i x := by
  cases i with
  | endRange l => obtain ⟨b, d, e, h1, h2⟩ := k; exact ⟨b, d, e, h _ _ h1, h2⟩
  | code c => exact k
  | ops o r => exact k
  | inBlock id => exact k
  | inLoop c => exact k
  | inScope c => exact k
  | beginRound => exact k
theorem KR.mono {R R' : Ren} (h : RLe R R') : ∀ {K : List LItem} {k : List Item}, KR R K k → KR R' K k
  | [], _, q => q
  | i :: is, _, q => by
    simp only [KR] at q ⊢
    obtain ⟨x, xs, h1, h2, h3⟩ := q
    exact ⟨x, xs, h1, h2.mono h, KR.mono h h3⟩
theorem KR.cons {R : Ren} {i : LItem} {x : Item} {K : List LItem} {k : List Item} (h : ItemR R i x) (q : KR R K k) : KR R (i :: K) (x :: k) := by
  simp only [KR]; exact ⟨x, k, rfl, h, q⟩
theorem KR.uncons {R : Ren} {i : LItem} {K : List LItem} {k : List Item} (h : KR R (i :: K) k) : ∃ x xs, k = x :: xs ∧ ItemR R i x ∧ KR R K xs := by
  simpa only [KR] using h

def ItemOk (P : Program) : LItem → Prop
  | .code c => codeOk P c = true
  | .inLoop c => codeOk P c = true
  | .inScope c => codeOk P c = true
  | _ => True
def KOk (P : Program) (K : List LItem) : Prop := ∀ i ∈ K, ItemOk P i
theorem KOk.tail {P : Program} {i : LItem} {K : List LItem} (h : KOk P (i :: K)) : KOk P K := fun j hj => h j (List.mem_cons_of_mem _ hj)
theorem KOk.head {P : Program} {i : LItem} {K : List LItem} (h : KOk P (i :: K)) : ItemOk P i := h i List.mem_cons_self
theorem KOk.cons {P : Program} {i : LItem} {K : List LItem} (h : ItemOk P i) (k : KOk P K) : KOk P (i :: K) := fun j hj => by
  rcases List.mem_cons.1 hj with rfl | hj
  · exact h
  · exact k j hj
theorem KOk.nil {P : Program} : KOk P [] := fun _ h => by cases h

theorem lexit_some {P : Program} {R : Ren} {id : Nat} : ∀ {K : List LItem} {k : List Item} {K' : List LItem}, KR R K k → KOk P K → lexit id K = some K' → ∃ k', exitTo id k = some k' ∧ KR R K' k' ∧ KOk P K'
  | [], _, _, _, _, h => by simp [lexit] at h
  | i :: K, k, K', hk, ho, h => by
    obtain ⟨x, xs, rfl, hi, hks⟩ := hk.uncons
    cases i with
    | inBlock id' =>
      simp only [ItemR] at hi
      subst hi
      simp only [lexit] at h
      split at h
      · rename_i e; cases h; exact ⟨xs, by simp [exitTo, e], hks, ho.tail⟩
      · rename_i e; obtain ⟨k', h1, h2⟩ := lexit_some hks ho.tail h; exact ⟨k', by simp [exitTo, e, h1], h2⟩
    | code c => simp only [ItemR] at hi; subst hi; obtain ⟨k', h1, h2⟩ := lexit_some hks ho.tail (by simpa [lexit] using h); exact ⟨k', by simp [exitTo, h1], h2⟩
    | inLoop c => simp only [ItemR] at hi; subst hi; obtain ⟨k', h1, h2⟩ := lexit_some hks ho.tail (by simpa [lexit] using h); exact ⟨k', by simp [exitTo, h1], h2⟩
    | inScope c => simp only [ItemR] at hi; subst hi; obtain ⟨k', h1, h2⟩ := lexit_some hks ho.tail (by simpa [lexit] using h); exact ⟨k', by simp [exitTo, h1], h2⟩
    | beginRound => simp only [ItemR] at hi; subst hi; obtain ⟨k', h1, h2⟩ := lexit_some hks ho.tail (by simpa [lexit] using h); exact ⟨k', by simp [exitTo, h1], h2⟩
    | endRange l => obtain ⟨b, d, e, _, rfl⟩ := hi; obtain ⟨k', h1, h2⟩ := lexit_some hks ho.tail (by simpa [lexit] using h); exact ⟨k', by simp [exitTo, h1], h2⟩
    | ops o r => obtain ⟨j, rfl, _⟩ := hi; obtain ⟨k', h1, h2⟩ := lexit_some hks ho.tail (by simpa [lexit] using h); exact ⟨k', by simp [exitTo, h1], h2⟩

theorem lexit_none {R : Ren} {id : Nat} : ∀ {K : List LItem} {k : List Item}, KR R K k → lexit id K = none → exitTo id k = none
  | [], _, hk, _ => by simp only [KR] at hk; subst hk; rfl
  | i :: K, k, hk, h => by
    obtain ⟨x, xs, rfl, hi, hks⟩ := hk.uncons
    cases i with
    | inBlock id' =>
      simp only [ItemR] at hi
      subst hi
      simp only [lexit] at h
      split at h
      · cases h
      · rename_i e; simp [exitTo, e, lexit_none hks h]
    | code c => simp only [ItemR] at hi; subst hi; simp [exitTo, lexit_none hks (by simpa [lexit] using h)]
    | inLoop c => simp only [ItemR] at hi; subst hi; simp [exitTo, lexit_none hks (by simpa [lexit] using h)]
    | inScope c => simp only [ItemR] at hi; subst hi; simp [exitTo, lexit_none hks (by simpa [lexit] using h)]
    | beginRound => simp only [ItemR] at hi; subst hi; simp [exitTo, lexit_none hks (by simpa [lexit] using h)]
    | endRange l => obtain ⟨b, d, e, _, rfl⟩ := hi; simp [exitTo, lexit_none hks (by simpa [lexit] using h)]
    | ops o r => obtain ⟨j, rfl, _⟩ := hi; simp [exitTo, lexit_none hks (by simpa [lexit] using h)]

theorem findLabel_ok {P : Program} {l : Nat} : ∀ {c rest : Code}, codeOk P c = true → findLabel c l = some rest → codeOk P rest = true
  | .seq a b, rest, hc, h => by
    simp only [codeOk, Bool.and_eq_true] at hc
    simp only [findLabel] at h
    split at h
    · rename_i r hr
      cases h
      simp only [codeOk, Bool.and_eq_true]
      exact ⟨findLabel_ok hc.1 hr, hc.2⟩
    · exact findLabel_ok hc.2 h
  | .label l', rest, hc, h => by
    simp only [findLabel] at h
    split at h
    · cases h; rfl
    · cases h
  | .skip, _, _, h => by simp [findLabel] at h
  | .region _ _ _, _, _, h => by simp [findLabel] at h
  | .cond _ _ _, _, _, h => by simp [findLabel] at h
  | .block _ _, _, _, h => by simp [findLabel] at h
  | .loop _, _, _, h => by simp [findLabel] at h
  | .scope _, _, _, h => by simp [findLabel] at h
  | .exit _, _, _, h => by simp [findLabel] at h
  | .goto _, _, _, h => by simp [findLabel] at h
  | .ret, _, _, h => by simp [findLabel] at h
  | .rangeFunc _ _ _ _, _, _, h => by simp [findLabel] at h
  | .refuse _, _, _, h => by simp [findLabel] at h

theorem lgoto_some {P : Program} {R : Ren} {l : Nat} : ∀ {K : List LItem} {k : List Item} {K' : List LItem}, KR R K k → KOk P K → lgoto l K = some K' → ∃ k', gotoIn l k = some k' ∧ KR R K' k' ∧ KOk P K'
  | [], _, _, _, _, h => by simp [lgoto] at h
  | i :: K, k, K', hk, ho, h => by
    obtain ⟨x, xs, rfl, hi, hks⟩ := hk.uncons
    cases i with
    | inScope c =>
      simp only [ItemR] at hi
      subst hi
      simp only [lgoto] at h
      split at h
      · rename_i rest hr
        cases h
        have hc : codeOk P c = true := ho.head
        exact ⟨.code rest :: .inScope c :: xs, by simp [gotoIn, hr], KR.cons rfl (KR.cons rfl hks), KOk.cons (findLabel_ok hc hr) (KOk.cons hc ho.tail)⟩
      · rename_i hr; obtain ⟨k', h1, h2⟩ := lgoto_some hks ho.tail h; exact ⟨k', by simp [gotoIn, hr, h1], h2⟩
    | inBlock id => simp only [ItemR] at hi; subst hi; obtain ⟨k', h1, h2⟩ := lgoto_some hks ho.tail (by simpa [lgoto] using h); exact ⟨k', by simp [gotoIn, h1], h2⟩
    | code c => simp only [ItemR] at hi; subst hi; obtain ⟨k', h1, h2⟩ := lgoto_some hks ho.tail (by simpa [lgoto] using h); exact ⟨k', by simp [gotoIn, h1], h2⟩
    | inLoop c => simp only [ItemR] at hi; subst hi; obtain ⟨k', h1, h2⟩ := lgoto_some hks ho.tail (by simpa [lgoto] using h); exact ⟨k', by simp [gotoIn, h1], h2⟩
    | beginRound => simp only [ItemR] at hi; subst hi; obtain ⟨k', h1, h2⟩ := lgoto_some hks ho.tail (by simpa [lgoto] using h); exact ⟨k', by simp [gotoIn, h1], h2⟩
    | endRange l => obtain ⟨b, d, e, _, rfl⟩ := hi; obtain ⟨k', h1, h2⟩ := lgoto_some hks ho.tail (by simpa [lgoto] using h); exact ⟨k', by simp [gotoIn, h1], h2⟩
    | ops o r => obtain ⟨j, rfl, _⟩ := hi; obtain ⟨k', h1, h2⟩ := lgoto_some hks ho.tail (by simpa [lgoto] using h); exact ⟨k', by simp [gotoIn, h1], h2⟩

theorem stepR_scope {P : Program} {b : Frame} {a : Act} {k : List Item} {cs : List Frame} {w : World} {c : Code} :
    step P (lone (b.atR a (.code (.scope c) :: k)) cs w) = .next (lone (b.atR a (.code c :: .inScope c :: k)) cs w) :=
  step_lone_go (by simp [stepG, stepG.exec, Frame.atR])
theorem stepR_inScope {P : Program} {b : Frame} {a : Act} {k : List Item} {cs : List Frame} {w : World} {c : Code} :
    step P (lone (b.atR a (.inScope c :: k)) cs w) = .next (lone (b.atR a k) cs w) :=
  step_lone_go (by simp [stepG, stepG.exec, Frame.atR])

/-! ### frames -/
def RoundR (R : Ren) (b : Frame) : Option Nat → Prop
  | none => b.roundOf = none
  | some l => ∃ lb d e, R l = some (lb, d, e) ∧ b.roundOf = some lb
theorem RoundR.mono {R R' : Ren} (h : RLe R R') {b : Frame} {o : Option Nat} (k : RoundR R b o) : RoundR R' b o := by
  cases o with
  | none => exact k
  | some l => obtain ⟨lb, d, e, h1, h2⟩ := k; exact ⟨lb, d, e, h _ _ h1, h2⟩

/-- The callers, where the deferrer's panic is x, recovered or not. -/
def csOf (cs : List Frame) (x : Value) : Option (LV × Bool) → List Frame
  | none => cs
  | some (_, r) => match cs with | c :: rest => { c with mode := .panicking [{ v := x, recovered := r }] } :: rest | [] => []

def PanR (R : Ren) (b : Frame) (cs : List Frame) (x : Value) : Option (LV × Bool) → Prop
  | none => ∀ fr : Frame, fr.kind = b.kind → tryRecover fr cs = none
  | some (v, _) => b.kind = .deferred ∧ cs ≠ [] ∧ DV R v x
theorem PanR.mono {R R' : Ren} (h : RLe R R') {b : Frame} {cs : List Frame} {x : Value} {o : Option (LV × Bool)} (k : PanR R b cs x o) : PanR R' b cs x o := by
  cases o with
  | none => exact k
  | some p => exact ⟨k.1, k.2.1, DV_mono h _ _ k.2.2⟩

def GlobR (P : Program) (R : Ren) : Prop := ∀ g, g < P.globals.size → ∃ e, R g = some (g, 0, e)
theorem GlobR.mono {P : Program} {R R' : Ren} (h : RLe R R') (k : GlobR P R) : GlobR P R' := fun g hg => let ⟨e, he⟩ := k g hg; ⟨e, h _ _ he⟩

structure FIn (P : Program) (b : Frame) (a : Act) (cs : List Frame) (x : Value) (w : World) (R : Ren) (S : FS) : Prop where
  fn : b.fn = S.fn
  env : EnvR R S.E a.tmps
  dfs : DefsR R S.D a.defers
  den : Den R S.H w
  rnd : RoundR R b S.rnd
  pan : PanR R b cs x S.pan
  glob : GlobR P R
  loops : LoopsOk P S.H

/-- How a machine comes to a frame's end. -/
def Last (P : Program) (m : Machine) (b : Frame) (cs : List Frame) (x : Value) (R' : Ren) (w' : World) (a' : Act) : FR → Prop
  | .ret S' => ∃ todo, Steps P m (lone { b.atR a' todo with mode := .returning } (csOf cs x S'.pan) w')
  | .panic v S' => ∃ y todo, DV R' v y ∧ Steps P m (lone { b.atR a' todo with mode := .panicking [{ v := y, recovered := false }] } (csOf cs x S'.pan) w')
  | .jump none S' => Steps P m (lone (b.atR a' []) (csOf cs x S'.pan) w')
  | .jump (some .ret) S' => ∃ todo, Steps P m (lone (b.atR a' (.code .ret :: todo)) (csOf cs x S'.pan) w')
  | .jump (some (.exit id)) S' => ∃ todo, exitTo id todo = none ∧ Steps P m (lone (b.atR a' (.code (.exit id) :: todo)) (csOf cs x S'.pan) w')
  | .jump _ _ => False

theorem Last.of_steps {P : Program} {m m₁ : Machine} {b : Frame} {cs : List Frame} {x : Value} {R' : Ren} {w' : World} {a' : Act} {r : FR} (hs : Steps P m m₁)
    (h : Last P m₁ b cs x R' w' a' r) : Last P m b cs x R' w' a' r := by
  unfold Last at h ⊢
  split at h
  · obtain ⟨t, h⟩ := h; exact ⟨t, hs.trans h⟩
  · obtain ⟨y, t, h1, h⟩ := h; exact ⟨y, t, h1, hs.trans h⟩
  · exact hs.trans h
  · obtain ⟨t, h⟩ := h; exact ⟨t, hs.trans h⟩
  · obtain ⟨t, h1, h⟩ := h; exact ⟨t, h1, hs.trans h⟩
  · exact h

def Ends (P : Program) (m : Machine) (b : Frame) (cs : List Frame) (x : Value) (S : FS) (R : Ren) (w : World) (r : FR) : Prop :=
  ∃ R' w' a', Goes R S.H w R' r.st.H w' ∧ LGo P S.H r.st.H ∧ Den R' r.st.H w' ∧ EnvR R' r.st.E a'.tmps ∧ DefsR R' r.st.D a'.defers ∧
    r.st.fn = S.fn ∧ r.st.rnd = S.rnd ∧ r.st.pan.map (·.1) = S.pan.map (·.1) ∧ Last P m b cs x R' w' a' r

theorem Ends.head {P : Program} {m m₁ : Machine} {b : Frame} {cs : List Frame} {x : Value} {S S₁ : FS} {R R₁ : Ren} {w w₁ : World} {r : FR} (h : Ends P m₁ b cs x S₁ R₁ w₁ r)
    (hs : Steps P m m₁) (hg : Goes R S.H w R₁ S₁.H w₁) (hl : LGo P S.H S₁.H) (hf : S₁.fn = S.fn) (hr : S₁.rnd = S.rnd) (hp : S₁.pan.map (·.1) = S.pan.map (·.1)) : Ends P m b cs x S R w r := by
  obtain ⟨R', w', a', h1, h2, h3, h4, h5, h6, h7, h8, h9⟩ := h
  exact ⟨R', w', a', hg.trans h1, hl.trans h2, h3, h4, h5, h6.trans hf, h7.trans hr, h8.trans hp, h9.of_steps hs⟩

/-- A step that changes what is to do alone. -/
theorem Ends.calm {P : Program} {m m₁ : Machine} {b : Frame} {cs : List Frame} {x : Value} {S : FS} {R : Ren} {w : World} {r : FR} (h : Ends P m₁ b cs x S R w r)
    (hs : step P m = .next m₁) : Ends P m b cs x S R w r :=
  h.head (.one hs) (Goes.refl _ _ _) (LGo.refl _ _) rfl rfl rfl

/-! ### calls, rounds -/
def EndR (R : Ren) : LOut → Ending → Prop
  | .ret v, .returned x => DV R v x
  | .panic v, .panicked ch => ∃ x, ch = [{ v := x, recovered := false }] ∧ DV R v x
  | _, _ => False
def OutPost (P : Program) (R : Ren) (H : LH) (w : World) (o : LOut) (H' : LH) (e : Ending) (w' : World) : Prop :=
  ∃ R', Goes R H w R' H' w' ∧ LGo P H H' ∧ Den R' H' w' ∧ EndR R' o e

def CallOk (P : Program) (rec : Task → Option Res) : Prop :=
  ∀ f args H o H', rec (.call f args H) = some (.out o H') → ∀ (R : Ren) (w : World) (av : Array Value), DVs R args av.toList → Den R H w → GlobR P R → LoopsOk P H →
    Fresh R H.next H'.next → Calls P f av w (OutPost P R H w o H')
def RoundOk (P : Program) (rec : Task → Option Res) : Prop :=
  ∀ l args H o H', rec (.round l args H) = some (.out o H') → ∀ (R : Ren) (w : World) (av : Array Value) (lb d e : Nat), R l = some (lb, d, e) → DVs R args av.toList → Den R H w →
    GlobR P R → LoopsOk P H → Fresh R H.next H'.next →
    ∃ f tmps as_ body, (Instr.yield lb av).run P w = .ok (.round lb f tmps as_ body) w ∧ RoundIn Fence.wide 0 P lb f tmps as_ body w (OutPost P R H w o H')
def FrameOk (P : Program) (rec : Task → Option Res) : Prop :=
  ∀ K S r, rec (.frame K S) = some (.fr r) → ∀ (b : Frame) (a : Act) (k : List Item) (cs : List Frame) (x : Value) (w : World) (R : Ren), KR R K k → KOk P K → FIn P b a cs x w R S →
    Fresh R S.H.next r.st.H.next → Ends P (lone (b.atR a k) (csOf cs x S.pan) w) b cs x S R w r

theorem OutPost.head {P : Program} {R R₁ : Ren} {H H₁ H' : LH} {w w₁ w' : World} {o : LOut} {e : Ending} (h : OutPost P R₁ H₁ w₁ o H' e w') (hg : Goes R H w R₁ H₁ w₁) (hl : LGo P H H₁) :
    OutPost P R H w o H' e w' := by
  obtain ⟨R', h1, h2, h3, h4⟩ := h
  exact ⟨R', hg.trans h1, hl.trans h2, h3, h4⟩

/-! ### one operation -/
section
variable {P : Program} {b : Frame} {a : Act} {k : List Item} {cs : List Frame} {w w' : World} {ops : Array Oper} {i : Nat} {rest : List Nat} {o : Oper}

theorem finishR (ho : ops[i]? = some o) (v : Value) : (b.atR a (.inRegion ops (i :: rest) :: k)).finish v = b.atR (a.put o.dst v) (.inRegion ops rest :: k) := by
  rw [Frame.finish_atR, ho]; rfl

theorem op_value (ho : ops[i]? = some o) (hw : Region.wanted o (yielded ops a.tmps) = true) {v : Value} (hr : (o.semAt b.roundOf a.eval).run P w = .ok (.value v) w') :
    step P (lone (b.atR a (.inRegion ops (i :: rest) :: k)) cs w) = .next (lone (b.atR (a.put o.dst v) (.inRegion ops rest :: k)) cs w') := by
  refine step_lone_go ?_
  rw [stepGR_op ho hw, ← finishR ho]; simp [stepG.apply, hr]
theorem op_skip (ho : ops[i]? = some o) (hw : Region.wanted o (yielded ops a.tmps) = true) (hr : (o.semAt b.roundOf a.eval).run P w = .ok .skip w') :
    step P (lone (b.atR a (.inRegion ops (i :: rest) :: k)) cs w) = .next (lone (b.atR (a.put o.dst undef) (.inRegion ops rest :: k)) cs w') := by
  refine step_lone_go ?_
  rw [stepGR_op ho hw, ← finishR ho]; simp [stepG.apply, hr]
theorem op_defer (ho : ops[i]? = some o) (hw : Region.wanted o (yielded ops a.tmps) = true) {d : Deferred} (hr : (o.semAt b.roundOf a.eval).run P w = .ok (.defer d) w') :
    step P (lone (b.atR a (.inRegion ops (i :: rest) :: k)) cs w) = .next (lone (b.atR ({ a with defers := d :: a.defers }.put o.dst undef) (.inRegion ops rest :: k)) cs w') := by
  have : ({ b.atR a (.inRegion ops (i :: rest) :: k) with defers := d :: a.defers } : Frame).finish undef = b.atR ({ a with defers := d :: a.defers }.put o.dst undef) (.inRegion ops rest :: k) := by
    have := Frame.finish_atR b { a with defers := d :: a.defers } ops i rest k undef
    rw [ho] at this; exact this
  refine step_lone_go ?_
  rw [stepGR_op ho hw]; simp only [stepG.apply, Sem.runT_eq, hr, GStep.bare_after]
  exact congrArg (fun fr => GStep.go { frame := fr, callers := cs, status := .running, dying := none } w') this
theorem op_panic (ho : ops[i]? = some o) (hw : Region.wanted o (yielded ops a.tmps) = true) {v : Value} (hr : (o.semAt b.roundOf a.eval).run P w = .halt (.panic v) w') :
    step P (lone (b.atR a (.inRegion ops (i :: rest) :: k)) cs w) = .next (lone { b.atR a (.inRegion ops (i :: rest) :: k) with mode := .panicking [{ v, recovered := false }] } cs w') := by
  refine step_lone_go ?_
  rw [stepGR_op ho hw, ← Frame.raise_atR]; simp [stepG.apply, hr]
theorem op_enter (ho : ops[i]? = some o) (hw : Region.wanted o (yielded ops a.tmps) = true) {f : Nat} {args : Array Value} (hr : (o.semAt b.roundOf a.eval).run P w = .ok (.enter f args) w') :
    step P (lone (b.atR a (.inRegion ops (i :: rest) :: k)) cs w) = .next (lone (Frame.enter P f args .normal) (b.atR a (.inRegion ops (i :: rest) :: k) :: cs) w') := by
  refine step_lone_go ?_
  rw [stepGR_op ho hw]; simp [stepG.apply, hr, Frame.atR]
theorem op_round (ho : ops[i]? = some o) (hw : Region.wanted o (yielded ops a.tmps) = true) {l f : Nat} {tmps : Array Value} {as_ body : Code}
    (hr : (o.semAt b.roundOf a.eval).run P w = .ok (.round l f tmps as_ body) w') :
    step P (lone (b.atR a (.inRegion ops (i :: rest) :: k)) cs w) = .next (lone (Frame.round l f tmps as_ body .normal) (b.atR a (.inRegion ops (i :: rest) :: k) :: cs) w') := by
  refine step_lone_go ?_
  rw [stepGR_op ho hw]; simp [stepG.apply, hr, Frame.atR]

theorem op_recover_none (hb : b.roundOf = none) (ho : ops[i]? = some o) (hw : Region.wanted o (yielded ops a.tmps) = true) (hr : (o.semAt b.roundOf a.eval).run P w = .ok .recover w')
    (ht : ∀ fr : Frame, fr.kind = b.kind → tryRecover fr cs = none) :
    step P (lone (b.atR a (.inRegion ops (i :: rest) :: k)) cs w) = .next (lone (b.atR (a.put o.dst .nilIface) (.inRegion ops rest :: k)) cs w') := by
  refine step_lone_go ?_
  have h2 : (b.atR a (.inRegion ops (i :: rest) :: k)).roundOf = none := hb
  rw [stepGR_op ho hw, ← finishR ho]
  simp only [stepG.apply, Sem.runT_eq, hr, GStep.bare_after, h2, ht _ (show (b.atR a (.inRegion ops (i :: rest) :: k)).kind = b.kind from rfl)]
  rfl

theorem op_recover_some (hb : b.roundOf = none) (hk : b.kind = .deferred) (ho : ops[i]? = some o) (hw : Region.wanted o (yielded ops a.tmps) = true)
    (hr : (o.semAt b.roundOf a.eval).run P w = .ok .recover w') {c : Frame} {x : Value} :
    step P (lone (b.atR a (.inRegion ops (i :: rest) :: k)) ({ c with mode := .panicking [{ v := x, recovered := false }] } :: cs) w) =
      .next (lone (b.atR (a.put o.dst x) (.inRegion ops rest :: k)) ({ c with mode := .panicking [{ v := x, recovered := true }] } :: cs) w') := by
  refine step_lone_go ?_
  have h2 : (b.atR a (.inRegion ops (i :: rest) :: k)).roundOf = none := hb
  have h3 : tryRecover (b.atR a (.inRegion ops (i :: rest) :: k)) ({ c with mode := .panicking [{ v := x, recovered := false }] } :: cs) =
      some (x, { c with mode := .panicking [{ v := x, recovered := true }] } :: cs) := by
    rw [tryRecover_deferred (show (b.atR a (.inRegion ops (i :: rest) :: k)).kind = .deferred from hk)]; rfl
  rw [stepGR_op ho hw, ← finishR ho]
  simp only [stepG.apply, Sem.runT_eq, hr, GStep.bare_after, h2, h3]
  rfl

theorem DV_bool {R : Ren} {x : LV} {b : Bool} (h : DV R x (.bool b)) : x = .bool b := by
  cases x with
  | ptr a => cases a with
    | none => simp [DV] at h
    | some p => simp [DV] at h
  | slice a n c => cases a with
    | none => simp [DV] at h
    | some p => cases c <;> simp [DV] at h
  | map r => cases r <;> simp [DV] at h
  | bool c => simp only [DV, Value.bool.injEq] at h; rw [h]
  | _ => simp [DV] at h

/-- Is it wanted? -/
theorem wantedL_sound {R : Ren} {E : Env} (he : EnvR R E a.tmps) {t : Bool} (h : wantedL ops E o = some t) : Region.wanted o (yielded ops a.tmps) = t := by
  unfold wantedL at h
  unfold Region.wanted
  split at h
  · rename_i hg; rw [hg]; cases h; rfl
  · rename_i j want hg
    rw [hg]
    simp only
    cases hx : ((ops[j]?).bind (·.dst)).bind E.get with
    | none => rw [hx] at h; cases h
    | some y =>
      obtain ⟨d, hd, hget⟩ := Option.bind_eq_some_iff.1 hx
      obtain ⟨v, hv, hdv⟩ := he.slot d y hget
      have hyl : yielded ops a.tmps j = (match v with | .bool b => some b | _ => none) := by
        unfold yielded
        rw [hd]
        simp only [Option.bind_some, hv]
        cases v <;> rfl
      rw [hx] at h
      rw [hyl]
      by_cases hb : ∃ c, v = .bool c
      · obtain ⟨c, rfl⟩ := hb
        have := DV_bool hdv
        subst this
        simp only [Option.some.injEq] at h
        subst h
        cases c <;> cases want <;> rfl
      · have h1 : ∀ c, y ≠ .bool c := fun c e => by subst e; simp only [DV] at hdv; exact hb ⟨c, hdv⟩
        have h2 : t = false := by
          cases y <;> simp at h <;> first | exact h.symm | exact h | exact absurd rfl (h1 _)
        subst h2
        cases v <;> first | rfl | exact absurd ⟨_, rfl⟩ hb
end

end Go.Lv
