/- Lv: one operation runs in the model as the evaluator says. -/
import Derived.Test.YthakgknamfopcaaLvMap
namespace Go.Lv
open Go
set_option linter.unusedVariables false
set_option linter.unusedSimpArgs false

section
variable {P : Program} {w : World} {R : Ren} {H H' : LH}

theorem typeAssert_sound {asserted xt : Nat} {x r : LV} {ok : Bool} {xv : Value} (h : typeAssertL P asserted x ok = some r) (hx : DV R x xv) :
    ∃ v, (Instr.typeAssert xv xt asserted ok).run P w = .ok v w ∧ DV R r v := by
  have fails : ∀ (z : LV), zeroT P asserted = some z → ∃ v, (zeroValue asserted).run P w = .ok v w ∧ DV R z v := fun z hz => by
    obtain ⟨v, h1, h2⟩ := rn_zeroValue (P := P) hz
    exact ⟨v, h1 w, h2 R⟩
  have tup : ∀ (z : LV) v b, DV R z v → DV R (.tuple [z, .bool b]) (.tuple #[v, .bool b]) := fun z v b hz => by
    simp only [DV]; exact ⟨_, rfl, DVs_cons hz (DVs_one (by simp [DV]))⟩
  unfold typeAssertL at h
  split at h
  · rename_i want t v hu
    simp only [DV] at hx
    obtain ⟨u, rfl, hv⟩ := hx
    split at h
    · rename_i i hi
      split at h
      · rename_i hm
        cases h
        cases ok
        · exact ⟨.iface t u, by simp [Instr.typeAssert, rn_underlying hu, rn_typeInfo hi, hm], by simp only [Bool.false_eq_true, if_false, DV]; exact ⟨u, rfl, hv⟩⟩
        · exact ⟨_, by simp [Instr.typeAssert, rn_underlying hu, rn_typeInfo hi, hm] <;> rfl, tup _ _ true (by simp only [DV]; exact ⟨u, rfl, hv⟩)⟩
      · rename_i m hm
        cases ok
        · simp at h
        · simp only [if_true] at h
          obtain ⟨z, hz, rfl⟩ := Option.map_eq_some_iff.1 h
          obtain ⟨zv, h1, h2⟩ := fails z hz
          exact ⟨_, by simp [Instr.typeAssert, rn_underlying hu, rn_typeInfo hi, hm, h1] <;> rfl, tup _ _ false h2⟩
    · cases h
  · rename_i d t v hni hu
    simp only [DV] at hx
    obtain ⟨u, rfl, hv⟩ := hx
    have hd : ∀ ms, d ≠ .interface ms := fun ms e => hni ms e
    split at h
    · rename_i ht
      cases h
      cases ok
      · refine ⟨u, ?_, by simpa using hv⟩
        cases d <;> simp [Instr.typeAssert, rn_underlying hu, ht] <;> exact absurd rfl (hd _)
      · refine ⟨_, ?_, tup _ _ true hv⟩
        cases d <;> simp [Instr.typeAssert, rn_underlying hu, ht] <;> first | rfl | exact absurd rfl (hd _)
    · rename_i ht
      cases ok
      · simp at h
      · simp only [if_true] at h
        obtain ⟨z, hz, rfl⟩ := Option.map_eq_some_iff.1 h
        obtain ⟨zv, h1, h2⟩ := fails z hz
        refine ⟨_, ?_, tup _ _ false h2⟩
        cases d <;> simp [Instr.typeAssert, rn_underlying hu, ht, h1] <;> first | rfl | exact absurd rfl (hd _)
  · rename_i d hu
    simp only [DV] at hx
    subst hx
    cases ok
    · simp at h
    · simp only [if_true] at h
      obtain ⟨z, hz, rfl⟩ := Option.map_eq_some_iff.1 h
      obtain ⟨zv, h1, h2⟩ := fails z hz
      refine ⟨_, ?_, tup _ _ false h2⟩
      cases d <;> simp [Instr.typeAssert, rn_underlying hu, h1] <;> rfl
  · cases h

/-! ### methods and calls -/
theorem rn_wrapNilChk (xt : Nat) (ad : Addr) (nm : String) : (Builtin.ssaWrapNilChk_ #[xt] xt #[.pointer (some ad), strVal "", strVal nm]).run P w = .ok (.pointer (some ad)) w := rfl

theorem method_sound (hd : Den R H w) {t f : Nat} {x recv : LV} {v : Value} {name : String} (h : methodL P H t x name = some (f, recv)) (hv : DV R x v) (fuel : Nat) :
    ∃ rv, (method (fuel + 1) t v name).run P w = .ok (f, rv) w ∧ DV R recv rv := by
  unfold methodL at h
  split at h
  · rename_i m hm
    obtain ⟨i, hi, hfind⟩ := Option.bind_eq_some_iff.1 hm
    split at h
    · rename_i hp
      have hpe : m.path = #[] := by simpa using hp
      have hpath : m.path.toList = [] := by simp [hpe]
      split at h
      · rename_i g e hfn hu
        cases h
        exact ⟨v, by simp [method, rn_typeInfo hi, hfind, hpath, follow, hfn, receiverAt, rn_underlying hu, Place.get], hv⟩
      · rename_i g e hfn hu
        obtain ⟨y, hy, hr⟩ := Option.map_eq_some_iff.1 h
        cases hr
        obtain ⟨ad, yv, rfl, hrun, hdv⟩ := rn_loadVar (P := P) hd hy hv
        refine ⟨yv, ?_, hdv⟩
        simp [method, rn_typeInfo hi, hfind, hpath, follow, hfn, receiverAt, rn_underlying hu, Place.get, hpe, rn_wrapNilChk, asAddr, hrun]
      · rename_i g d hnp hfn hu
        cases h
        refine ⟨v, ?_, hv⟩
        cases d <;> simp [method, rn_typeInfo hi, hfind, hpath, follow, hfn, receiverAt, rn_underlying hu, Place.get]
        exact (hnp _ rfl).elim
      · cases h
    · cases h
  · cases h

theorem enterable_spec {f : Nat} (h : enterable P f = true) : ∃ fn c, P.funcs[f]? = some fn ∧ fn.body = some c ∧ (fn.name == "runtime.NumGoroutine") = false := by
  unfold enterable at h
  split at h
  · rename_i fn hf
    simp only [Bool.and_eq_true, Bool.not_eq_true'] at h
    obtain ⟨c, hc⟩ := Option.isSome_iff_exists.1 h.1
    exact ⟨fn, c, hf, hc, h.2⟩
  · cases h

theorem rn_callFunc {f : Nat} (h : enterable P f = true) (args : Array Value) : (callFunc f args).run P w = .ok (.enter f args) w := by
  obtain ⟨fn, c, hf, hc, hn⟩ := enterable_spec h
  have hn' : fn.name ≠ "runtime.NumGoroutine" := by simpa using hn
  simp [callFunc, hf, hc, hn']

/-- What the evaluator's word on one operation says of the model's run of it. -/
def OpR (P : Program) (o : Oper) (ρ : Operand → Value) (w : World) (R : Ren) (H : LH) : OR → Prop
  | .val v H' => ∃ R' x w', (execOp ρ o).run P w = .ok (.value x) w' ∧ Goes R H w R' H' w' ∧ Den R' H' w' ∧ DV R' v x
  | .skip H' => ∃ R' w', (execOp ρ o).run P w = .ok .skip w' ∧ Goes R H w R' H' w' ∧ Den R' H' w'
  | .call f args => ∃ av : Array Value, (execOp ρ o).run P w = .ok (.enter f av) w ∧ DVs R args av.toList ∧ enterable P f = true
  | .round l args => ∃ b d e, ∃ av : Array Value, R l = some (b, d, e) ∧ (execOp ρ o).run P w = (Instr.yield b av).run P w ∧ DVs R args av.toList
  | .defer d => ∃ x, (execOp ρ o).run P w = .ok (.defer x) w ∧ DefR R d x
  | .recov => (execOp ρ o).run P w = .ok .recover w
  | .panic v => ∃ x, (execOp ρ o).run P w = .halt (.panic x) w ∧ DV R v x

/-- The same of an invocation. -/
def InvR (P : Program) (s : Sem Next) (w : World) (R : Ren) (H : LH) : OR → Prop
  | .val v H' => ∃ R' x w', s.run P w = .ok (.value x) w' ∧ Goes R H w R' H' w' ∧ Den R' H' w' ∧ DV R' v x
  | .call f args => ∃ av : Array Value, s.run P w = .ok (.enter f av) w ∧ DVs R args av.toList ∧ enterable P f = true
  | .round l args => ∃ b d e, ∃ av : Array Value, R l = some (b, d, e) ∧ s.run P w = (Instr.yield b av).run P w ∧ DVs R args av.toList
  | .recov => s.run P w = .ok .recover w
  | .panic v => ∃ x, s.run P w = .halt (.panic x) w ∧ DV R v x
  | _ => False

theorem InvR.op {o : Oper} {ρ : Operand → Value} {s : Sem Next} {r : OR} (h : InvR P s w R H r) (he : (execOp ρ o).run P w = s.run P w) : OpR P o ρ w R H r := by
  cases r with
  | val v H' => obtain ⟨R', x, w', h1, h2⟩ := h; exact ⟨R', x, w', by rw [he]; exact h1, h2⟩
  | call f args => obtain ⟨av, h1, h2⟩ := h; exact ⟨av, by rw [he]; exact h1, h2⟩
  | round l args => obtain ⟨b, d, e, av, h0, h1, h2⟩ := h; exact ⟨b, d, e, av, h0, by rw [he]; exact h1, h2⟩
  | recov => exact he.trans h
  | panic v => obtain ⟨x, h1, h2⟩ := h; exact ⟨x, by rw [he]; exact h1, h2⟩
  | skip H' => exact h.elim
  | defer d => exact h.elim

theorem callFn_sound {f : Nat} {args : List LV} {r : OR} (h : callFn P f args = some r) {av : Array Value} (ha : DVs R args av.toList) : InvR P (callFunc f av) w R H r := by
  unfold callFn at h
  split at h
  · rename_i he
    cases h
    exact ⟨av, rn_callFunc he av, ha, he⟩
  · cases h

theorem DVs_uncons {x : LV} {xs : List LV} {av : Array Value} (h : DVs R (x :: xs) av.toList) : ∃ v, av[0]? = some v ∧ DV R x v ∧ DVs R xs (av.extract 1 av.size).toList := by
  simp only [DVs] at h
  obtain ⟨v, vs, hl, h1, h2⟩ := h
  refine ⟨v, ?_, h1, ?_⟩
  · have := congrArg (fun l : List Value => l[0]?) hl
    simpa using this
  · rw [Array.toList_extract, List.extract_eq_drop_take', hl]
    have : av.size = vs.length + 1 := by
      have := congrArg List.length hl
      simpa using this
    rw [this]; simpa using h2

theorem callMethod_sound (hd : Den R H w) {t : Nat} {x : LV} {v : Value} {name : String} {args : List LV} {av : Array Value} {r : OR} (hv : DV R x v) (ha : DVs R args av.toList)
    (h : ((methodL P H t x name).bind fun (f, recv) => callFn P f (recv :: args)) = some r) : InvR P (callMethod (.iface t v) name av) w R H r := by
  obtain ⟨⟨f, recv⟩, hm, hc⟩ := Option.bind_eq_some_iff.1 h
  have hfuel : P.types.size + Made.depth = (P.types.size + (Made.depth - 1)) + 1 := by
    have : 0 < Made.depth := by decide
    omega
  obtain ⟨rv, hrun, hdv⟩ := method_sound (P := P) hd hm hv (P.types.size + (Made.depth - 1))
  have hlist : DVs R (recv :: args) (#[rv] ++ av).toList := by simpa using DVs_cons hdv ha
  have := callFn_sound (P := P) (w := w) (H := H) hc hlist
  have he : (callMethod (.iface t v) name av).run P w = (callFunc f (#[rv] ++ av)).run P w := by
    simp only [callMethod, Sem.run_bind, run_program, Result.andThen_ok]
    rw [hfuel, hrun]; rfl
  cases r with
  | val v H' => obtain ⟨R', x, w', h1, h2⟩ := this; exact ⟨R', x, w', by rw [he]; exact h1, h2⟩
  | call f args => obtain ⟨av, h1, h2⟩ := this; exact ⟨av, by rw [he]; exact h1, h2⟩
  | round l args => obtain ⟨b, d, e, av, h0, h1, h2⟩ := this; exact ⟨b, d, e, av, h0, by rw [he]; exact h1, h2⟩
  | recov => exact he.trans this
  | panic v => obtain ⟨x, h1, h2⟩ := this; exact ⟨x, by rw [he]; exact h1, h2⟩
  | skip H' => exact this.elim
  | defer d => exact this.elim

theorem InvR.of_eq {s s' : Sem Next} {r : OR} (h : InvR P s w R H r) (he : s'.run P w = s.run P w) : InvR P s' w R H r := by
  cases r with
  | val v H' => obtain ⟨R', x, w', h1, h2⟩ := h; exact ⟨R', x, w', by rw [he]; exact h1, h2⟩
  | call f args => obtain ⟨av, h1, h2⟩ := h; exact ⟨av, by rw [he]; exact h1, h2⟩
  | round l args => obtain ⟨b, d, e, av, h0, h1, h2⟩ := h; exact ⟨b, d, e, av, h0, by rw [he]; exact h1, h2⟩
  | recov => exact he.trans h
  | panic v => obtain ⟨x, h1, h2⟩ := h; exact ⟨x, by rw [he]; exact h1, h2⟩
  | skip H' => exact h.elim
  | defer d => exact h.elim

theorem extract_tail {recv : Value} {rest : Array Value} : (#[recv] ++ rest).extract 1 (#[recv] ++ rest).size = rest := by
  apply Array.toList_inj.1
  simp [List.extract_eq_drop_take']

/-- A call of a function value: what Deferred.ofValue makes of it, invoked. -/
theorem callValue_sound (hd : Den R H w) {g : LV} {gv : Value} {args : List LV} {av : Array Value} {r : OR} (h : callValue P H g args = some r) (hg : DV R g gv) (ha : DVs R args av.toList) :
    InvR P (do let d ← Deferred.ofValue gv av; invoke d.target d.args) w R H r := by
  unfold callValue at h
  split at h
  · rename_i f first captured
    simp only [DV] at hg
    obtain ⟨fa, ca, rfl, hfa, hca⟩ := hg
    have hl : DVs R (first ++ args ++ captured) ((fa ++ av) ++ ca).toList := by
      simpa using DVs_append (DVs_append hfa ha) hca
    exact (callFn_sound (P := P) (w := w) (H := H) h hl).of_eq (by simp [Deferred.ofValue, invoke])
  · rename_i name first captured
    simp only [DV] at hg
    obtain ⟨fa, ca, rfl, hfa, hca⟩ := hg
    have hl : DVs R (first ++ args) (fa ++ av).toList := by simpa using DVs_append hfa ha
    split at h
    · rename_i t x rest heq
      rw [heq] at hl
      obtain ⟨v, hv0, hv, hrest⟩ := DVs_uncons hl
      simp only [DV] at hv
      obtain ⟨u, rfl, hu⟩ := hv
      refine (callMethod_sound (P := P) hd hu hrest h).of_eq ?_
      simp [Deferred.ofValue, invoke, hv0]
    · cases h
  · rename_i t name first captured
    simp only [DV] at hg
    obtain ⟨fa, ca, rfl, hfa, hca⟩ := hg
    have hl : DVs R (first ++ args) (fa ++ av).toList := by simpa using DVs_append hfa ha
    split at h
    · rename_i x rest heq
      rw [heq] at hl
      obtain ⟨v, hv0, hv, hrest⟩ := DVs_uncons hl
      split at h
      · rename_i ms hu
        split at h
        · rename_i u y
          simp only [DV] at hv
          obtain ⟨z, rfl, hz⟩ := hv
          refine (callMethod_sound (P := P) hd hz hrest h).of_eq ?_
          simp [Deferred.ofValue, invoke, hv0, rn_underlying hu]
        · cases h
      · rename_i d hni hu
        refine (callMethod_sound (P := P) hd hv hrest h).of_eq ?_
        cases d <;> simp [Deferred.ofValue, invoke, hv0, rn_underlying hu]
        exact (hni _ rfl).elim
      · cases h
    · cases h
  · rename_i l
    cases h
    simp only [DV] at hg
    obtain ⟨b, d, e, hr, rfl⟩ := hg
    exact ⟨b, d, e, av, hr, by simp [Deferred.ofValue, invoke], ha⟩
  · cases h

theorem min_fold {mx : Bool} {k : IntKind} : ∀ {xs : List LV} {vs : List Value} {x : Int} {r : LV}, foldMin mx k x xs = some r → DVs R xs vs →
    ∃ n, r = .int k n ∧ (vs.foldlM (if mx then Builtin.max2 else Builtin.min2) (.int k x)).run P w = .ok (.int k n) w
  | [], vs, x, r, h, hv => by simp [foldMin] at h; simp [DVs] at hv; subst h hv; exact ⟨x, rfl, by simp⟩
  | y :: ys, vs, x, r, h, hv => by
    unfold foldMin at h
    split at h
    · rename_i heq; cases heq
    · rename_i k2 m ys' heq
      cases heq
      simp only [DVs] at hv
      obtain ⟨v, vs', rfl, h1, h2⟩ := hv
      simp only [DV] at h1; subst h1
      cases mx
      · simp only [Bool.false_eq_true, if_false] at h
        obtain ⟨n, hn, hr⟩ := min_fold h h2
        refine ⟨n, hn, ?_⟩
        simp only [Bool.false_eq_true, if_false] at hr ⊢
        simp only [List.foldlM_cons, Sem.run_bind, Builtin.min2, Sem.run_pure, Result.andThen_ok]
        exact hr
      · simp only [if_true] at h
        obtain ⟨n, hn, hr⟩ := min_fold h h2
        refine ⟨n, hn, ?_⟩
        simp only [if_true] at hr ⊢
        simp only [List.foldlM_cons, Sem.run_bind, Builtin.max2, Sem.run_pure, Result.andThen_ok]
        exact hr
    · cases h

theorem VR.inv {s : Sem Value} {v : LV} {H' : LH} (h : VR P s R H w v H') : InvR P (do pure (.value (← s))) w R H (.val v H') := by
  obtain ⟨R', x, w', h1, h2, h3, h4⟩ := h
  exact ⟨R', x, w', by simp [h1], h2, h3, h4⟩

theorem two_vals {x y : LV} {av : Array Value} (h : DVs R [x, y] av.toList) : ∃ u v, av = #[u, v] ∧ DV R x u ∧ DV R y v := by
  simp only [DVs] at h
  obtain ⟨u, us, hl, h1, v, vs, rfl, h2, rfl⟩ := h
  exact ⟨u, v, by apply Array.toList_inj.1; simpa using hl, h1, h2⟩
theorem one_val {x : LV} {av : Array Value} (h : DVs R [x] av.toList) : ∃ u, av = #[u] ∧ DV R x u := by
  simp only [DVs] at h
  obtain ⟨u, us, hl, h1, rfl⟩ := h
  exact ⟨u, by apply Array.toList_inj.1; simpa using hl, h1⟩

theorem arr_get {ts : Array Nat} {l : List Nat} (h : ts.toList = l) (i : Nat) : ts[i]? = l[i]? := by rw [← h]; simp

def OR.next (r : OR) (H : LH) : Nat :=
  match r with
  | .val _ H' => H'.next
  | .skip H' => H'.next
  | _ => H.next

theorem builtin_sound (hd : Den R H w) {b : Builtin} {ts : Array Nat} {ty : Nat} {cs : Array Bool} {args : List LV} {av : Array Value} {r : OR}
    (h : builtinL P H b ts.toList args = some r) (hf : H.next < r.next H → R H.next = none) (ha : DVs R args av.toList) : InvR P (builtin b ts ty cs av) w R H r := by
  unfold builtinL at h
  split at h
  · -- len
    rename_i t tr x hts
    obtain ⟨v, rfl, hv⟩ := one_val ha
    have h0 : ts[0]? = some t := by rw [arr_get hts]; rfl
    have fin : ∀ n : Nat, (Builtin.len_ ts ty #[v]).run P w = .ok (.int .i64 n) w → InvR P (builtin .len ts ty cs #[v]) w R H (.val (.int .i64 n) H) := fun n hn =>
      VR.inv (VR.same hd hn (by simp [DV]))
    split at h
    · rename_i s hu
      cases h
      simp only [DV] at hv; subst hv
      have hs : (⟨s.toArray⟩ : ByteArray).size = s.length := by simp [ByteArray.size]
      exact fin _ (by simp [Builtin.len_, h0, rn_underlying hu, goInt, hs])
    · rename_i e a n c hu
      cases h
      obtain ⟨base, cap, rfl, _⟩ := lenD_form (R := R) (d := .slice a n c) rfl hv
      exact fin _ (by simp [Builtin.len_, h0, rn_underlying hu, goInt])
    · rename_i e hu
      cases h
      simp only [DV] at hv; obtain ⟨a, c, rfl⟩ := hv
      exact fin 0 (by simp [Builtin.len_, h0, rn_underlying hu, goInt])
    · rename_i n e hu
      cases h
      exact fin _ (by simp [Builtin.len_, h0, rn_underlying hu, goInt])
    · rename_i k e hu
      cases h
      simp only [DV] at hv; subst hv
      exact fin 0 (by simp [Builtin.len_, h0, rn_underlying hu, goInt])
    · rename_i k e i hu
      split at h
      · rename_i es cl hg
        cases h
        simp only [DV] at hv
        obtain ⟨b', d', e', hr, rfl⟩ := hv
        obtain ⟨b2, d2, e2, hr2, xs, hh, hen⟩ := hd.obj i _ hg
        rw [hr] at hr2; cases hr2
        have hlen : es.length = xs.size := by
          have : ∀ (es : List (LV × LV × Nat)) (l : List MapEntry), EntR R es l → es.length = l.length := by
            intro es
            induction es with
            | nil => intro l hl; simp [EntR] at hl; simp [hl]
            | cons a es ih =>
              obtain ⟨k, v, n⟩ := a
              intro l hl
              simp only [EntR] at hl
              obtain ⟨x, xs, rfl, _, _, _, h4⟩ := hl
              simp [ih _ h4]
          simpa using this _ _ hen
        refine fin _ ?_
        simp [Builtin.len_, h0, rn_underlying hu, goInt, getObj, Sem.run, hh, hlen]
      · cases h
    · cases h
  · -- cap
    rename_i t tr x hts
    obtain ⟨v, rfl, hv⟩ := one_val ha
    have h0 : ts[0]? = some t := by rw [arr_get hts]; rfl
    split at h
    · rename_i e a n c hu
      cases h
      refine VR.inv (VR.same hd (x := .int .i64 c) ?_ (by simp [DV]))
      cases a with
      | none => simp only [DV] at hv; obtain ⟨rfl, rfl, hc⟩ := hv; cases hc; simp [Builtin.cap_, h0, rn_underlying hu, goInt]
      | some p => obtain ⟨i, off⟩ := p; simp only [DV] at hv; obtain ⟨b, d, e, _, rfl⟩ := hv; simp [Builtin.cap_, h0, rn_underlying hu, goInt]
    · cases h
  · -- append
    rename_i t t' tr s x hts
    obtain ⟨sv, xv, rfl, hs, hx⟩ := two_vals ha
    have h0 : ts[0]? = some t := by rw [arr_get hts]; rfl
    have h1 : ts[1]? = some t' := by rw [arr_get hts]; rfl
    split at h
    · rename_i e k he hu
      split at h
      · rename_i n sz by_ z hn hsz hby hz
        split at h
        · rename_i hcond
          obtain ⟨hc1, hc2, hc3, hc4⟩ := hcond
          obtain ⟨⟨v, H'⟩, hap, rfl⟩ := Option.map_eq_some_iff.1 h
          obtain ⟨kx, m, rfl, hm1, hm2⟩ := natOf_sound hn hx
          obtain ⟨zv, hzr, hzd⟩ := rn_zeroValue (P := P) hz
          have hzl := DVs_length (DV_cells (hzd R))
          simp only [Array.length_toList] at hzl
          have hzs : zv.cells.size = sz := by omega
          have hpos : 0 < sz := by
            unfold appendL at hap
            rw [hsz, hby, hz] at hap
            simp only at hap
            split at hap
            · cases hap
            · rename_i h0; exact Nat.pos_of_ne_zero h0
          have hzc := zeroCells_eq (hzd R) hc3 hpos n
          exact VR.inv (append_core hd hf hsz hzc.1 hzc.1 (zeros_len hc3 n) (by
              clear hap h
              induction n with
              | zero => simp [zerosL]
              | succ n ih => simp only [zerosL, List.all_append, Bool.and_eq_true]; exact ⟨hc4, by
                  have : ∀ n, (zerosL n z.cells).all oneCell = true := by
                    intro n
                    induction n with
                    | zero => simp [zerosL]
                    | succ n ih => simp only [zerosL, List.all_append, Bool.and_eq_true]; exact ⟨hc4, ih⟩
                  exact this n⟩)
            (fun base sLen sCap hle => run_append_room_z h0 h1 (sliceElem_spec he) hu hsz hby (by omega) hc2 hc1 hzr hzs hle)
            (fun base sLen sCap ov b2 hb2 hb0 hmax hgt ho zv2 hz2 => by
              have : zv2 = zv := by have h5 := hz2 w; rw [hzr w] at h5; cases h5; rfl
              subst this
              rw [hby] at hb2; cases hb2
              exact run_append_grow_z h0 h1 (sliceElem_spec he) hu hsz hby hb0 hmax (by omega) hc2 hc1 hzr hzs hgt ho) hap hs)
        · cases h
      · cases h
    · rename_i e d hni he hu
      split at h
      · rename_i n sz hn hsz
        obtain ⟨xs, hxs, h⟩ := Option.bind_eq_some_iff.1 h
        split at h
        · rename_i hone
          obtain ⟨⟨v, H'⟩, hap, rfl⟩ := Option.map_eq_some_iff.1 h
          exact VR.inv (append_sound hd hf h0 h1 (sliceElem_spec he) hu (fun k hk => hni k hk) hsz hn hxs hone hap hs hx)
        · cases h
      · cases h
    · cases h
  · -- copy
    rename_i t tr d s hts
    obtain ⟨dv, sv, rfl, hdv, hsv⟩ := two_vals ha
    have h0 : ts[0]? = some t := by rw [arr_get hts]; rfl
    obtain ⟨⟨v, H'⟩, hc, rfl⟩ := Option.map_eq_some_iff.1 h
    exact VR.inv (copy_sound hd h0 hc hdv hsv)
  · -- min
    rename_i k x rest
    obtain ⟨v, hv, rfl⟩ := Option.map_eq_some_iff.1 h
    have ha' := ha
    simp only [DVs] at ha'
    obtain ⟨u, us, hl, h1, h2⟩ := ha'
    simp only [DV] at h1; subst h1
    obtain ⟨n, rfl, hrun⟩ := min_fold (P := P) (w := w) (mx := false) hv h2
    refine VR.inv (VR.same hd (x := .int k n) ?_ (by simp [DV]))
    simp only [Builtin.min_, hl]
    simpa using hrun
  · rename_i k x rest
    obtain ⟨v, hv, rfl⟩ := Option.map_eq_some_iff.1 h
    have ha' := ha
    simp only [DVs] at ha'
    obtain ⟨u, us, hl, h1, h2⟩ := ha'
    simp only [DV] at h1; subst h1
    obtain ⟨n, rfl, hrun⟩ := min_fold (P := P) (w := w) (mx := true) hv h2
    refine VR.inv (VR.same hd (x := .int k n) ?_ (by simp [DV]))
    simp only [Builtin.max_, hl]
    simpa using hrun
  · -- panic
    rename_i t v
    cases h
    obtain ⟨u, rfl, hu⟩ := one_val ha
    have hu' := hu
    simp only [DV] at hu
    obtain ⟨z, rfl, hz⟩ := hu
    exact ⟨.iface t z, rfl, hu'⟩
  · cases h
    simp [InvR, builtin]
  · -- delete
    rename_i t tr m k hts
    obtain ⟨mv, kv, rfl, hmv, hkv⟩ := two_vals ha
    have h0 : ts[0]? = some t := by rw [arr_get hts]; rfl
    obtain ⟨H', hc, rfl⟩ := Option.map_eq_some_iff.1 h
    obtain ⟨w', hrun, hg, hdn⟩ := delete_sound (ty := ty) hd h0 hc hmv hkv
    exact VR.inv ⟨R, .tuple #[], w', hrun, hg, hdn, by simp only [DV]; exact ⟨#[], rfl, DVs_nil⟩⟩
  · cases h

theorem opt_sound {E : Env} {a : Act} (he : EnvR R E a.tmps) (x : Option Operand) {l : List LV} (h : evAll E x.toList = some l) : OptR R l.head? (x.map a.eval) := by
  cases x with
  | none => simp [evAll] at h; subst h; trivial
  | some x =>
    simp only [Option.toList, evAll] at h
    cases hx : E.ev x with
    | none => simp [hx] at h
    | some v => simp [hx] at h; subst h; exact ev_sound he hx

theorem run_v {s : Sem Value} {x : Value} {w' : World} (h : s.run P w = .ok x w') : (do pure (.value (← s)) : Sem Next).run P w = .ok (.value x) w' := by simp [h]
theorem run_u {s : Sem Unit} {w' : World} (h : s.run P w = .ok () w') : (do s; pure .skip : Sem Next).run P w = .ok .skip w' := by simp [h]

theorem OpR.same {o : Oper} {ρ : Operand → Value} {s : Sem Value} {v : LV} {x : Value} (hd : Den R H w) (he : execOp ρ o = (do pure (.value (← s)))) (h : s.run P w = .ok x w) (hv : DV R v x) :
    OpR P o ρ w R H (.val v H) := ⟨R, x, w, by rw [he]; exact run_v h, Goes.refl R H w, hd, hv⟩

theorem OpR.vr {o : Oper} {ρ : Operand → Value} {s : Sem Value} {v : LV} {H' : LH} (he : execOp ρ o = (do pure (.value (← s)))) (h : VR P s R H w v H') : OpR P o ρ w R H (.val v H') := by
  obtain ⟨R', x, w', h1, h2⟩ := h
  exact ⟨R', x, w', by rw [he]; exact run_v h1, h2⟩

theorem nilAhead_sound {t : Nat} {x : LV} {v : Value} {name : String} (h : methodStands P t x name = true) (hv : DV R x v) (fuel : Nat) :
    (nilAhead (fuel + 1) t v name).run P w = .ok (some false) w := by
  unfold methodStands at h
  split at h
  · rename_i m hm
    obtain ⟨i, hi, hfind⟩ := Option.bind_eq_some_iff.1 hm
    split at h
    · rename_i hp
      have hpe : m.path = #[] := by simpa using hp
      have hpath : m.path.toList = [] := by simp [hpe]
      split at h
      · rename_i f hfn
        simp [nilAhead, rn_typeInfo hi, hfind, hpath, followBlind, hfn]
      · rename_i f hfn
        split at h
        · rename_i e hu
          split at h
          · rename_i p
            obtain ⟨i', off⟩ := p
            simp only [DV] at hv
            obtain ⟨b, d, e', _, rfl⟩ := hv
            simp [nilAhead, rn_typeInfo hi, hfind, hpath, followBlind, hfn, rn_underlying hu]
          · cases h
        · rename_i d hnp hu
          cases d <;> simp [nilAhead, rn_typeInfo hi, hfind, hpath, followBlind, hfn, rn_underlying hu]
          exact (hnp _ rfl).elim
        · cases h
      · cases h
    · cases h
  · cases h

theorem exec_builtin (ρ : Operand → Value) (dst : Option Nat) (ty : Nat) (pos : String) (after : Array Edge) (guard : Option (Nat × Bool)) (b : Builtin) (args : Array Operand) (ts : Array Nat) :
    ∃ cs, (execOp ρ ⟨dst, .call ⟨.builtin b, args, ts⟩, ty, pos, after, guard⟩).run P w = (builtin b ts ty cs (args.map ρ)).run P w :=
  by
    apply Exists.intro
    simp only [execOp, resolve, Sem.run_bind, Sem.run_pure, Result.andThen_ok, invoke]
    rfl

theorem zerosL_nil : ∀ n, zerosL n [] = []
  | 0 => rfl
  | n + 1 => by simp [zerosL, zerosL_nil n]

set_option maxHeartbeats 4000000 in
theorem lop_sound {E : Env} {a : Act} (he : EnvR R E a.tmps) (hd : Den R H w) {o : Oper} {r : OR} (h : lop P E H o = some r) (hfr : Fresh R H.next (r.next H)) : OpR P o a.eval w R H r := by
  have hfresh : H.next < r.next H → R H.next = none := fun hlt => hfr _ (Nat.le_refl _) hlt
  obtain ⟨dst, op, ty, pos, after, guard⟩ := o
  unfold lop at h
  cases op with
  | move x =>
    simp only at h
    obtain ⟨v, hv, rfl⟩ := Option.map_eq_some_iff.1 h
    exact ⟨R, _, w, rfl, Goes.refl R H w, hd, ev_sound he hv⟩
  | assign x =>
    simp only at h
    obtain ⟨v, hv, rfl⟩ := Option.map_eq_some_iff.1 h
    exact ⟨R, _, w, rfl, Goes.refl R H w, hd, ev_sound he hv⟩
  | pick c x y =>
    simp only at h
    split at h
    · rename_i hc
      obtain ⟨v, hv, rfl⟩ := Option.map_eq_some_iff.1 h
      have := ev_sound he hc
      simp only [DV] at this
      exact ⟨R, _, w, by simp [execOp, this, asBool], Goes.refl R H w, hd, ev_sound he hv⟩
    · rename_i hc
      obtain ⟨v, hv, rfl⟩ := Option.map_eq_some_iff.1 h
      have := ev_sound he hc
      simp only [DV] at this
      exact ⟨R, _, w, by simp [execOp, this, asBool], Goes.refl R H w, hd, ev_sound he hv⟩
    · cases h
  | alloc t =>
    simp only at h
    obtain ⟨z, hz, h⟩ := Option.bind_eq_some_iff.1 h
    cases h
    obtain ⟨zv, hzr, hzd⟩ := rn_zeroValue (P := P) hz
    have hc := DV_cells (hzd R)
    have hl := DVs_length hc
    simp only [Array.length_toList] at hl
    have hnr := new_row (w := w) (cs := z.cells) hd (hfresh (by simp [OR.next])) t false (arr := zv.cells) (by omega)
      (fun R' hR' => by rw [List.take_of_length_le (by simp; omega)]; exact DV_cells (hzd R')) (0, 0) (.inl rfl)
    refine ⟨_, _, _, ?_, hnr.1, hnr.2, by simp only [DV]; exact ⟨_, _, _, Ren.put_same _ _ _, rfl⟩⟩
    simp [execOp, Instr.alloc, hzr, newVar, newRow]
  | box t x =>
    simp only at h
    obtain ⟨z, hz, h⟩ := Option.bind_eq_some_iff.1 h
    split at h
    · cases h
      have hx := ev_sound he hz
      have hc := DV_cells hx
      have hl := DVs_length hc
      simp only [Array.length_toList] at hl
      have hnr := new_row (w := w) (cs := z.cells) hd (hfresh (by simp [OR.next])) t false (arr := (a.eval x).cells) (by omega)
        (fun R' hR' => by rw [List.take_of_length_le (by simp; omega)]; exact DVs_mono hR' _ _ hc) (0, 0) (.inl rfl)
      refine ⟨_, _, _, ?_, hnr.1, hnr.2, by simp only [DV]; exact ⟨_, _, _, Ren.put_same _ _ _, rfl⟩⟩
      simp [execOp, Instr.box, newVar, newRow]
    · cases h
  | build t parts =>
    simp only at h
    split at h
    · rename_i z ps hz hps
      have hparts := evParts_sound he hps
      obtain ⟨i, hi, hzi⟩ : ∃ i, P.info? t = some i ∧ ∃ zv, i.zero = some zv ∧ DV R z zv := by
        unfold zeroT at hz
        cases hi : P.info? t with
        | none => simp [hi] at hz
        | some i =>
          cases hzv : i.zero with
          | none => simp [hi, hzv] at hz
          | some zv => simp [hi, hzv] at hz; exact ⟨i, rfl, zv, hzv, ofV_DV _ _ _ hz⟩
      obtain ⟨zv, hzv, hzd⟩ := hzi
      have fin : ∀ cells out, P.built t (parts.map fun (i, x) => (i, a.eval x)).toList = some cells → DVs R out cells.toList → OpR P ⟨dst, .build t parts, ty, pos, after, guard⟩ a.eval w R H (.val (.agg out) H) :=
        fun cells out hb ho => ⟨R, .agg cells, w, by simp [execOp, run_build w t _ cells hb], Goes.refl R H w, hd, by simp only [DV]; exact ⟨cells, rfl, ho⟩⟩
      split at h
      · rename_i fs hu
        obtain ⟨pl, hpl, h⟩ := Option.bind_eq_some_iff.1 h
        obtain ⟨v, hv, rfl⟩ := Option.map_eq_some_iff.1 h
        obtain ⟨out, hout, rfl⟩ := Option.map_eq_some_iff.1 hv
        obtain ⟨arr', hfill, hdv, _⟩ := fill_sound hparts (DV_cells hzd) hout
        refine fin arr' out ?_ hdv
        have hpl' : fs.toList.mapM (fun f => (P.info? f.type).map fun i => (f.offset, i.size)) = some pl := hpl
        simp only [Program.built, hi, hu, hzv, hpl']
        simpa using hfill
      · rename_i n e hu
        obtain ⟨s, hs, h⟩ := Option.bind_eq_some_iff.1 h
        obtain ⟨v, hv, rfl⟩ := Option.map_eq_some_iff.1 h
        obtain ⟨out, hout, rfl⟩ := Option.map_eq_some_iff.1 hv
        obtain ⟨ie, hie, hies⟩ := Option.map_eq_some_iff.1 (show (P.info? e).map (·.size) = some s from hs)
        obtain ⟨arr', hfill, hdv, _⟩ := fill_sound hparts (DV_cells hzd) hout
        refine fin arr' out ?_ hdv
        simp only [Program.built, hi, hu, hzv, hie, hies]
        simpa using hfill
      · cases h
    · cases h
  | buildSlice t len parts =>
    simp only at h
    split at h
    · rename_i e ps he' hps
      have hparts := evParts_sound he hps
      split at h
      · rename_i s z hs hz
        split at h
        · rename_i hcond
          obtain ⟨hc1, hc2, hc3⟩ := hcond
          split at h
          · rename_i cs hcs
            cases h
            obtain ⟨zv, hzr, hzd⟩ := rn_zeroValue (P := P) hz
            have hzc := DV_cells (hzd R)
            have hzl := DVs_length hzc
            simp only [Array.length_toList] at hzl
            have hbig : ¬ len * s > 2 ^ 24 := by
              have : len * s ≤ 100000 * 64 := Nat.mul_le_mul hc1 hc2
              omega
            have hzs : DVs R (zerosL len z.cells) (((Array.range (len * s)).map (zv.cells[· % zv.cells.size]!)).toList) := by
              by_cases hs0 : s = 0
              · have hz0 : z.cells = [] := List.length_eq_zero_iff.1 (by omega)
                have : zerosL len z.cells = [] := by rw [hz0]; exact zerosL_nil len
                rw [this, hs0]
                simpa using DVs_nil
              · have := zeros_eq hzc (by omega) len
                rw [hzl, hc3] at this
                rw [hzl, hc3]; exact this
            obtain ⟨arr', hfill, hdv, hlen'⟩ := fill_sound hparts hzs hcs
            have hal := DVs_length hdv
            simp only [Array.length_toList] at hal
            have hnr := new_row (w := w) (cs := cs) hd (hfresh (by simp [OR.next])) e false (arr := arr') (by omega)
              (fun R' hR' => by rw [List.take_of_length_le (by simp; omega)]; exact DVs_mono hR' _ _ hdv) (0, 0) (.inl rfl)
            refine ⟨_, .slice (some ⟨w.heap.size, 0, none⟩) len len, _, ?_, hnr.1, hnr.2, by simp only [DV]; exact ⟨_, _, _, Ren.put_same _ _ _, rfl⟩⟩
            by_cases hls : len * s = 0
            · have e0 : (Array.range 0 : Array Nat) = #[] := Array.eq_empty_of_size_eq_zero (by simp)
              have hfill' : Instr.fill (fun i => some (i * s, s)) #[] (List.map (fun x => (x.fst, a.eval x.snd)) parts.toList) = some arr' := by
                rw [hls, e0] at hfill; simpa using hfill
              simp only [execOp, Sem.run_bind, Instr.buildSlice, rn_underlying (sliceElem_spec he'), rn_sizeOf hs, Result.andThen_ok]
              rw [if_neg hbig]
              simp only [hls, if_true, Sem.run_bind, Sem.run_pure, Result.andThen_ok, e0]
              simp [hfill', newRow]
            · simp only [execOp, Sem.run_bind, Instr.buildSlice, rn_underlying (sliceElem_spec he'), rn_sizeOf hs, Result.andThen_ok]
              rw [if_neg hbig]
              have hfill' : Instr.fill (fun i => some (i * s, s)) ((Array.range (len * s)).map (zv.cells[· % zv.cells.size]!)) (parts.map fun (i, x) => (i, a.eval x)).toList = some arr' := by simpa using hfill
              simp only [if_neg hls, Sem.run_bind, hzr, Sem.run_pure, Result.andThen_ok, hfill']
              simp [newRow]
          · cases h
        · cases h
      · cases h
    · cases h
  | load t x =>
    simp only at h
    obtain ⟨av, hav, h⟩ := Option.bind_eq_some_iff.1 h
    obtain ⟨v, hv, rfl⟩ := Option.map_eq_some_iff.1 h
    obtain ⟨ad, y, hx, hrun, hdv⟩ := rn_loadVar (P := P) hd hv (ev_sound he hav)
    exact OpR.same hd (s := Instr.loadAt t (a.eval x)) rfl (by simp [Instr.loadAt, hx, Instr.sureAddr, hrun]) hdv
  | store t x y =>
    simp only at h
    split at h
    · rename_i av yv hav hyv
      obtain ⟨H', hst, rfl⟩ := Option.map_eq_some_iff.1 h
      obtain ⟨ad, w', hx, hrun, hg, hdn⟩ := rn_storeVar (P := P) hd hst (ev_sound he hav) (ev_sound he hyv)
      exact ⟨R, w', by simp [execOp, Instr.storeAt, hx, Instr.sureAddr, hrun], hg, hdn⟩
    · cases h
  | nilCheck x =>
    simp only at h
    split at h
    · rename_i p hx
      cases h
      obtain ⟨i, off⟩ := p
      have hv := ev_sound he hx
      have hv' := hv
      simp only [DV] at hv
      obtain ⟨b, d, e, hr, hp⟩ := hv
      exact ⟨R, a.eval x, w, by simp [execOp, hp], Goes.refl R H w, hd, hv'⟩
    · rename_i t u hx
      cases h
      have hv := ev_sound he hx
      have hv' := hv
      simp only [DV] at hv
      obtain ⟨z, hp, _⟩ := hv
      exact ⟨R, a.eval x, w, by simp [execOp, hp], Goes.refl R H w, hd, hv'⟩
    · rename_i f fs cs hx
      cases h
      have hv := ev_sound he hx
      have hv' := hv
      simp only [DV] at hv
      obtain ⟨z, z', hp, _⟩ := hv
      exact ⟨R, a.eval x, w, by simp [execOp, hp], Goes.refl R H w, hd, hv'⟩
    · rename_i name t u cs hx
      split at h
      · rename_i hms
        cases h
        have hv := ev_sound he hx
        have hv' := hv
        simp only [DV] at hv
        obtain ⟨z, z', hp, hz, _⟩ := hv
        obtain ⟨iv, rfl, hiv⟩ := one_val hz
        simp only [DV] at hiv
        obtain ⟨uv, rfl, huv⟩ := hiv
        have hfuel : P.types.size + Made.depth = (P.types.size + (Made.depth - 1)) + 1 := by
          have : 0 < Made.depth := by decide
          omega
        have hna := nilAhead_sound (P := P) (w := w) hms huv (P.types.size + (Made.depth - 1))
        rw [← hfuel] at hna
        refine ⟨R, a.eval x, w, ?_, Goes.refl R H w, hd, hv'⟩
        simp [execOp, hp, hna]
      · cases h
    · rename_i l hx
      cases h
      have hv := ev_sound he hx
      have hv' := hv
      simp only [DV] at hv
      obtain ⟨b, d, e, hr, hp⟩ := hv
      exact ⟨R, a.eval x, w, by simp [execOp, hp], Goes.refl R H w, hd, hv'⟩
    · cases h
  | binOp bop t x y yt =>
    simp only at h
    split at h
    · rename_i av bv hav hbv
      obtain ⟨v, hv, rfl⟩ := Option.map_eq_some_iff.1 h
      obtain ⟨rv, hrun, hdv⟩ := lbin_sound (P := P) (w := w) hv (ev_sound he hav) (ev_sound he hbv)
      exact OpR.same hd rfl hrun hdv
    · cases h
  | unOp uop t x =>
    simp only at h
    obtain ⟨av, hav, h⟩ := Option.bind_eq_some_iff.1 h
    obtain ⟨v, hv, rfl⟩ := Option.map_eq_some_iff.1 h
    have hx := ev_sound he hav
    unfold lun at hv
    split at hv
    · cases hv
      simp only [DV] at hx
      exact OpR.same hd (s := Op.unary _ (a.eval x)) rfl (by rw [hx]; rfl) (by simp [DV])
    · simp only [DV] at hx
      obtain ⟨rv, hrun, hdv⟩ := lbits_sound (P := P) (w := w) (R := R) hv
      exact OpR.same hd (s := Op.unary _ (a.eval x)) rfl (by rw [hx]; exact hrun) hdv
    · cases hv
      simp only [DV] at hx
      exact OpR.same hd (s := Op.unary _ (a.eval x)) rfl (by rw [hx]; rfl) (by simp [DV])
    · cases hv
  | convert s d x =>
    simp only at h
    obtain ⟨av, hav, h⟩ := Option.bind_eq_some_iff.1 h
    obtain ⟨⟨v, H'⟩, hv, rfl⟩ := Option.map_eq_some_iff.1 h
    exact OpR.vr rfl (convert_sound hd hfresh hv (ev_sound he hav))
  | sliceToArrayPointer t x =>
    simp only at h
    split at h
    · rename_i n e ad len c hu hx
      split at h
      · rename_i hle
        cases h
        have hv := ev_sound he hx
        cases ad with
        | none =>
          simp only [DV] at hv
          obtain ⟨hv, rfl, rfl⟩ := hv
          exact OpR.same hd (s := Instr.arrayAt t (a.eval x)) (x := .pointer none) rfl (by simp [Instr.arrayAt, rn_underlying hu, hv]; omega) (by simp [DV])
        | some p =>
          obtain ⟨i, off⟩ := p
          obtain ⟨b, d, e', cc, hr, hv, _⟩ := DV_slice hv
          exact OpR.same hd (s := Instr.arrayAt t (a.eval x)) (x := .pointer (some ⟨b, d + off, none⟩)) rfl (by simp [Instr.arrayAt, rn_underlying hu, hv]; omega) (by simp only [DV]; exact ⟨b, d, e', hr, rfl⟩)
      · cases h
    · cases h
  | makeInterface t x =>
    simp only at h
    split at h
    · cases h
    · rename_i d hni hu
      obtain ⟨v, hv, rfl⟩ := Option.map_eq_some_iff.1 h
      obtain ⟨y, hy, rfl⟩ := Option.map_eq_some_iff.1 hv
      refine OpR.same hd (s := Instr.makeInterface t (a.eval x)) (x := .iface t (a.eval x)) rfl ?_ (by simp only [DV]; exact ⟨_, rfl, ev_sound he hy⟩)
      cases d <;> simp [Instr.makeInterface, rn_underlying hu]
      exact (hni _ rfl).elim
    · cases h
  | makeFunc fn first captured =>
    simp only at h
    split at h
    · cases h
    · rename_i fa ca hny hfa hca
      cases h
      refine OpR.same hd (s := Instr.makeFunc _ (first.map a.eval) (captured.map a.eval)) (x := .func _ (first.map a.eval) (captured.map a.eval)) rfl rfl ?_
      simp only [DV]
      exact ⟨_, _, rfl, by simpa using evAll_sound he hfa, by simpa using evAll_sound he hca⟩
    · cases h
  | makeMap t r =>
    cases r with
    | none =>
      simp only at h
      cases h
      obtain ⟨hg, hdn⟩ := goes_new (w := w) hd (hfresh (by simp [OR.next])) (.map [] 0) (.map #[] 0) 0 ⟨#[], rfl, by simp [EntR]⟩
      refine ⟨_, _, _, ?_, hg, hdn, by simp only [DV]; exact ⟨_, _, _, Ren.put_same _ _ _, rfl⟩⟩
      simp [execOp, Instr.makeMap]
    | some r => simp at h
  | makeSlice t l c =>
    simp only at h
    split at h
    · rename_i lv cv hl hc
      obtain ⟨⟨v, H'⟩, hv, rfl⟩ := Option.map_eq_some_iff.1 h
      exact OpR.vr rfl (makeSlice_sound hd hfresh hv (ev_sound he hl) (ev_sound he hc))
    · cases h
  | slice t x lo hi mx =>
    simp only at h
    split at h
    · rename_i xv lv hv mv hx hlo hhi hmx
      obtain ⟨v, hsl, rfl⟩ := Option.map_eq_some_iff.1 h
      obtain ⟨rv, hrun, hdv⟩ := slice_sound (P := P) hd hsl (ev_sound he hx) (opt_sound he lo hlo) (opt_sound he hi hhi) (opt_sound he mx hmx)
      exact OpR.same hd rfl hrun hdv
    · cases h
  | fieldAddr t x k =>
    simp only at h
    split at h
    · rename_i i off f hx hf
      split at h
      · rename_i n hs
        cases h
        have hv := ev_sound he hx
        simp only [DV] at hv
        obtain ⟨b, d, e, hr, hp⟩ := hv
        unfold fieldOf at hf
        split at hf
        · rename_i fs hu
          refine OpR.same hd (s := Instr.fieldAt t (a.eval x) k) (x := .pointer (some ⟨b, d + off + f.offset, none⟩)) rfl ?_ (by simp only [DV]; exact ⟨b, d, e, hr, by rw [Nat.add_assoc]⟩)
          simp [Instr.fieldAt, rn_underlying hu, hf, hp, Instr.sureAddr, fieldPlace, rn_sizeOf hs, addr_add]
        · cases hf
      · cases h
    · cases h
  | field t x k =>
    simp only at h
    split at h
    · rename_i cs f hx hf
      obtain ⟨v, hv, rfl⟩ := Option.map_eq_some_iff.1 h
      have hxv := ev_sound he hx
      simp only [DV] at hxv
      obtain ⟨arr, hp, ha⟩ := hxv
      unfold fieldOf at hf
      split at hf
      · rename_i fs hu
        obtain ⟨y, hrun, hdv⟩ := rn_part (P := P) (w := w) hv ha
        exact OpR.same hd (s := Instr.field t (a.eval x) k) rfl (by simp [Instr.field, rn_underlying hu, hf, hp, asAgg, hrun]) hdv
      · cases hf
    · cases h
  | indexAddr t x ix =>
    simp only at h
    split at h
    · rename_i xv iv hx hi
      obtain ⟨v, hv, rfl⟩ := Option.map_eq_some_iff.1 h
      obtain ⟨y, hrun, hdv⟩ := indexAddr_sound (P := P) (w := w) hv (ev_sound he hx) (ev_sound he hi)
      exact OpR.same hd rfl hrun hdv
    · cases h
  | index t x ix =>
    simp only at h
    split at h
    · rename_i xv iv hx hi
      obtain ⟨v, hv, rfl⟩ := Option.map_eq_some_iff.1 h
      obtain ⟨y, hrun, hdv⟩ := index_sound (P := P) (w := w) hv (ev_sound he hx) (ev_sound he hi)
      exact OpR.same hd rfl hrun hdv
    · cases h
  | typeAssert x xt asserted ok =>
    simp only at h
    obtain ⟨xv, hx, h⟩ := Option.bind_eq_some_iff.1 h
    obtain ⟨v, hv, rfl⟩ := Option.map_eq_some_iff.1 h
    obtain ⟨y, hrun, hdv⟩ := typeAssert_sound (P := P) (w := w) (xt := xt) hv (ev_sound he hx)
    exact OpR.same hd rfl hrun hdv
  | extract t ix =>
    simp only at h
    split at h
    · rename_i vs hx
      obtain ⟨v, hv, rfl⟩ := Option.map_eq_some_iff.1 h
      have hxv := ev_sound he hx
      simp only [DV] at hxv
      obtain ⟨arr, hp, ha⟩ := hxv
      obtain ⟨y, hy, hdv⟩ := DVs_get ha _ _ hv
      exact OpR.same hd (s := Instr.extract (a.eval t) ix) rfl (by rw [hp]; simp [Instr.extract, show arr[ix]? = some y by simpa using hy]) hdv
    · cases h
  | call c =>
    obtain ⟨callee, args, argTypes⟩ := c
    simp only at h
    split at h
    · cases h
    rename_i al hal
    have hargs : DVs R al (args.map a.eval).toList := by simpa using evAll_sound he hal
    cases callee with
    | builtin b =>
      simp only at h
      obtain ⟨cs, hcs⟩ := exec_builtin (w := w) (P := P) a.eval dst ty pos after guard b args argTypes
      exact (builtin_sound (P := P) (w := w) (ty := ty) (cs := cs) hd h hfresh hargs).op hcs
    | value g =>
      simp only at h
      obtain ⟨gv, hgv, h⟩ := Option.bind_eq_some_iff.1 h
      exact (callValue_sound (P := P) (w := w) hd h (ev_sound he hgv) hargs).op rfl
    | invoke rc name =>
      simp only at h
      split at h
      · rename_i t u hx
        have hxv := ev_sound he hx
        simp only [DV] at hxv
        obtain ⟨z, hp, hz⟩ := hxv
        refine (callMethod_sound (P := P) (w := w) (name := name) hd hz hargs h).op ?_
        simp only [execOp, resolve, Sem.run_bind, Sem.run_pure, Result.andThen_ok, invoke, hp]
        have h0 : (#[Value.iface t z] ++ args.map a.eval)[0]? = some (.iface t z) := by rw [Array.getElem?_append_left (by simp)]; rfl
        rw [h0, extract_tail]
      · cases h
  | defer c =>
    obtain ⟨callee, args, argTypes⟩ := c
    simp only at h
    split at h
    · rename_i al g hal
      split at h
      · rename_i f first captured hg
        cases h
        have hgv := ev_sound he hg
        simp only [DV] at hgv
        obtain ⟨fa, ca, hp, hfa, hca⟩ := hgv
        have hargs : DVs R al (args.map a.eval).toList := by simpa using evAll_sound he hal
        refine ⟨{ target := .fn (.func f) ca, args := fa ++ args.map a.eval }, ?_, ?_⟩
        · simp [execOp, resolve, hp, Deferred.ofValue]
        · simp only [DefR]
          exact ⟨ca, rfl, hca, by simpa using DVs_append hfa hargs⟩
      · cases h
    · cases h
  | panic x =>
    simp only at h
    split at h
    · rename_i t u hx
      cases h
      have hxv := ev_sound he hx
      have hxv' := hxv
      simp only [DV] at hxv
      obtain ⟨z, hp, hz⟩ := hxv
      refine ⟨.iface t z, ?_, by rw [hp] at hxv'; exact hxv'⟩
      simp only [execOp, hp]
      rfl
    · cases h
  | ready g => simp at h
  | waits g => simp at h
  | insert a b c d => simp at h
  | makeChan a b => simp at h
  | lookup t x ix ok =>
    simp only at h
    split at h
    · rename_i x' ix' hx hix
      obtain ⟨v, hv, he'⟩ := Option.map_eq_some_iff.1 h
      cases he'
      obtain ⟨y, hrun, hy⟩ := lookup_sound (P := P) hd hv (ev_sound he hx) (ev_sound he hix)
      exact OpR.same hd rfl hrun hy
    · cases h
  | mapUpdate t m k x =>
    simp only at h
    split at h
    · rename_i m' k' x' hm hk hx
      obtain ⟨H', hH, he'⟩ := Option.map_eq_some_iff.1 h
      cases he'
      obtain ⟨w', hrun, hg, hdn⟩ := mapUpdate_sound (P := P) hd hH (ev_sound he hm) (ev_sound he hk) (ev_sound he hx)
      exact ⟨R, w', by simp [execOp, hrun], hg, hdn⟩
    · cases h
  | mapEntry a b c => simp at h
  | entryStore a b c d => simp at h
  | range a b => simp at h
  | next a b => simp at h
  | entry a => simp at h
  | go c => simp at h
  | send a b => simp at h
  | recv a b c => simp at h
  | select a b => simp at h

end
end Go.Lv
