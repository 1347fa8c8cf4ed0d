/- Lv: further rules of walking: known calls, deferred calls, ranges over functions, regions that draw their order with pairs whose order is open. -/
import Derived.Test.YthakgknamfopcaaLvLk
namespace Go.Lv
open Go
set_option linter.unusedVariables false
set_option linter.unusedSimpArgs false
set_option linter.unusedSectionVars false

section
variable {P : Program} [Known]

/-- A known call. -/
theorem CallP.known {f : Nat} {H : LH} {R : LOut → LH → Prop} (x : KnF) (hk : (Known.kn.find? fun x => x.f == f) = some x) (hg : x.gl.all (glHas P.globals.size H) = true) (hR : R (.ret x.v) H) : CallP P f [] H R := by
  refine ⟨_, _, ⟨1, ?_⟩, hR⟩
  show stepK P Known.kn (runK P Known.kn 0) (.call f [] H) = _
  have : knAt P Known.kn (.call f [] H) = some (.out (.ret x.v) H) := by
    simp only [knAt, hk, hg, if_true]
  simp only [stepK, this]

/-! ### deferred calls -/
/-- The deferred function's own frame hands on. -/
def FinD (P : Program) (S : FS) (ds : List LDef) (rs : List ResultVar) (R : LOut → LH → Prop) : FR → Prop
  | .ret S' => S'.D = [] ∧ (∃ vs, results P S'.H S'.E rs = some vs) ∧ DefsP P { S with D := ds, H := S'.H } (match S'.pan with | some (_, true) => none | q => q) R
  | .panic v S' => S'.D = [] ∧ S'.pan = none ∧ DefsP P { S with D := ds, H := S'.H } (some (v, false)) R
  | .jump _ _ => False

theorem DefsP.fn {S : FS} {p : Option (LV × Bool)} {R : LOut → LH → Prop} {gf : Nat} {cap args : List LV} {ds : List LDef} {fn : Func} {c : Code} (hD : S.D = { fn := .func gf, captured := cap, args := args } :: ds)
    (he : enterable P gf = true) (hf : P.funcs[gf]? = some fn) (hb : fn.body = some c) (hn : (args ++ cap).length ≤ fn.ntmps)
    (h : WP P { fn := gf, N := fn.ntmps, G := P.globals.size, pan := p } [.code c] (argsK 0 (args ++ cap)) S.H (FinD P S ds fn.results.toList R)) : DefsP P S p R := by
  obtain ⟨n1, n2⟩ := start_n (P := P) hn
  obtain ⟨r, hr, hQ⟩ := h (Env.start P fn.ntmps (args ++ cap)) n1 n2 start_EK
  cases r with
  | jump j S' => exact hQ.elim
  | ret S' =>
    obtain ⟨h1, ⟨vs, h2⟩, o, H', h3, h4⟩ := hQ
    refine ⟨o, H', hr.of2 h3 (fun rec r1 r2 => ?_), h4⟩
    simp only [runStep, hD, he, hf, hb, not_true, if_false]
    rw [show rec (.frame [.code c] { fn := gf, E := Env.start P fn.ntmps (args ++ cap), H := S.H, D := [], rnd := none, pan := p }) = _ from r1]
    simp only [h1, h2]
    exact r2
  | panic v S' =>
    obtain ⟨h1, h2, o, H', h3, h4⟩ := hQ
    refine ⟨o, H', hr.of2 h3 (fun rec r1 r2 => ?_), h4⟩
    simp only [runStep, hD, he, hf, hb, not_true, if_false]
    rw [show rec (.frame [.code c] { fn := gf, E := Env.start P fn.ntmps (args ++ cap), H := S.H, D := [], rnd := none, pan := p }) = _ from r1]
    simp only [h1, h2]
    exact r2

/-- The mark of a range over a function. -/
theorem DefsP.mark {S : FS} {p : Option (LV × Bool)} {R : LOut → LH → Prop} {d : LDef} {i : Nat} {ds : List LDef} (hD : S.D = d :: ds) (hm : d.mark = some i) (hi : S.H.get i = some (.defd false))
    (h : DefsP P { S with D := ds, H := S.H.put i (.defd true) } p R) : DefsP P S p R := by
  obtain ⟨o, H', h1, h2⟩ := h
  refine ⟨o, H', h1.of (fun rec r1 => ?_), h2⟩
  simp only [runStep, hD, hm, hi]
  exact r1
theorem DefsP.ret {S : FS} {fn : Func} {R : LOut → LH → Prop} {vs : List LV} (hD : S.D = []) (hf : P.funcs[S.fn]? = some fn) (hr : results P S.H S.E fn.results.toList = some vs) (hR : R (.ret (oneOr vs)) S.H) : DefsP P S none R := by
  refine ⟨_, _, Kw.now fun rec => ?_, hR⟩
  simp only [runStep, hD, hf, hr]
  rfl
theorem DefsP.panic {S : FS} {v : LV} {R : LOut → LH → Prop} (hD : S.D = []) (hR : R (.panic v) S.H) : DefsP P S (some (v, false)) R := by
  refine ⟨_, _, Kw.now fun rec => ?_, hR⟩
  simp only [runStep, hD]

/-! ### ranges over functions -/
section
variable {σ : FSt} {k : List LItem} {g : Kno} {H : LH} {Q : FR → Prop}

def markOf (i : Nat) : LDef := { fn := .func 0, captured := [], args := [], mark := some i }
/-- What the iterator's call leaves behind it. -/
def ThenR (P : Program) (σ : FSt) (l : Nat) (k : List LItem) (g : Kno) (Q : FR → Prop) : LOut → LH → Prop
  | .ret v, H' => WP P σ (.endRange l :: k) g H' Q
  | .panic v, H' => ∀ E, E.n = σ.N → E.g = σ.G → EK g E → Q (.panic v (σ.at E H'))

/-- An outermost range over a function: the loop's record lies in the heap with the slots as they are. -/
theorem WP.rangeFunc {f : Operand} {params : Array Tmp} {assign body : Code} {gf : Nat} {fi ca : List LV} (hr : σ.rnd = none) (hf : evk g σ.G f = some (.func (.func gf) fi ca)) [he : Ent P gf]
    (h : ∀ env : Env, env.n = σ.N → env.g = σ.G → EK g env → CallP P gf (fi ++ [.yield (H.next + 1)] ++ ca) ((H.new (.defd false)).new (.loop .ready none σ.fn env params.toList assign body H.next))
      (ThenR P { σ with D := markOf H.next :: σ.D } (H.next + 1) k g Q)) : WP P σ (.code (.rangeFunc f params assign body) :: k) g H Q := by
  intro E e1 e2 e3
  obtain ⟨out, H', hc, hth⟩ := h E e1 e2 e3
  have hv : (σ.at E H).E.ev f = some (.func (.func gf) fi ca) := evk_ev e3 e2 hf
  have h1 : rangeStands (σ.at E H) = true := by simp only [rangeStands, FSt.at, hr]
  have h2 : rangeOpen (σ.at E H) = (H.new (.defd false), markOf H.next :: σ.D, H.next) := by simp only [rangeOpen, FSt.at, hr]; rfl
  have h3 : rangeLoop (σ.at E H) params assign body = (H.new (.defd false)).new (.loop .ready none σ.fn E params.toList assign body H.next) := by simp only [rangeLoop, h2]; rfl
  have h4 : callValue P ((H.new (.defd false)).new (.loop .ready none σ.fn E params.toList assign body H.next)) (.func (.func gf) fi ca) [.yield (H.next + 1)] = some (.call gf (fi ++ [.yield (H.next + 1)] ++ ca)) := callValue_func
  cases out with
  | ret v =>
    obtain ⟨r, hr', hQ⟩ := hth E e1 e2 e3
    refine ⟨r, hc.of2 hr' fun rec r1 r2 => ?_, hQ⟩
    simp only [runStep, hv, h1, h2, h3, not_true, if_false]
    rw [show (H.new (.defd false)).next = H.next + 1 from rfl, h4]
    simp only
    rw [r1]
    exact r2
  | panic v =>
    refine ⟨_, hc.of fun rec r1 => ?_, hth E e1 e2 e3⟩
    simp only [runStep, hv, h1, h2, h3, not_true, if_false]
    rw [show (H.new (.defd false)).next = H.next + 1 from rfl, h4]
    simp only
    rw [r1]
    rfl

theorem WP.endRange {l : Nat} {st : LoopState} {fn : Nat} {env : Env} {ps : List Tmp} {a b : Code} {dn : Nat} {pend : Option Code} (hl : H.get l = some (.loop st pend fn env ps a b dn)) (hs : st ≠ .busy)
    (h : WP P σ (match pend with | some c => .code c :: k | none => k) g (H.put l (.loop .exhausted pend fn env ps a b dn)) Q) : WP P σ (.endRange l :: k) g H Q := by
  intro E e1 e2 e3
  obtain ⟨r, hr, hQ⟩ := h E e1 e2 e3
  refine ⟨r, hr.of fun rec r1 => ?_, hQ⟩
  simp only [runStep]
  rw [show (σ.at E H).H.get l = _ from hl]
  simp only [hs, if_false]
  cases pend with
  | none => exact r1
  | some c => exact r1

theorem WP.beginRound {l : Nat} {fn : Nat} {env : Env} {ps : List Tmp} {a b : Code} {dn : Nat} {pend : Option Code} (hr : σ.rnd = some l) (hl : H.get l = some (.loop .ready pend fn env ps a b dn))
    (h : WP P σ k g (H.put l (.loop .busy pend fn env ps a b dn)) Q) : WP P σ (.beginRound :: k) g H Q := by
  intro E e1 e2 e3
  obtain ⟨r, hr', hQ⟩ := h E e1 e2 e3
  refine ⟨r, hr'.of fun rec r1 => ?_, hQ⟩
  simp only [FSt.at] at r1 ⊢
  rw [hr] at r1 ⊢
  simp only [runStep]
  rw [hl]
  exact r1

/-- How a round hands on. -/
def FinR (P : Program) (l : Nat) (R : LOut → LH → Prop) : FR → Prop
  | .jump j S => S.D = [] ∧ ∃ st pend fn env ps a b dn, S.H.get l = some (.loop st pend fn env ps a b dn) ∧ R (.ret (.bool j.isNone)) (S.H.put l (.loop (if j.isNone then .ready else .done) j fn env ps a b dn))
  | .panic v S => S.D = [] ∧ (∃ fn, P.funcs[S.fn]? = some fn) ∧ R (.panic v) S.H
  | .ret _ => False

def zipK : List Nat → List LV → Kno → Kno
  | p :: ps, v :: vs, g => zipK ps vs ((p, v) :: g)
  | _, _, g => g
theorem zipK_ok : ∀ (ps : List Nat) (vs : List LV) (g : Kno) (E : Env), (∀ p ∈ ps, p < E.n) → EK g E → EK (zipK ps vs g) ((ps.zip vs).foldl (fun E (p : Nat × LV) => E.put p.1 p.2) E) ∧
    ((ps.zip vs).foldl (fun E (p : Nat × LV) => E.put p.1 p.2) E).n = E.n ∧ ((ps.zip vs).foldl (fun E (p : Nat × LV) => E.put p.1 p.2) E).g = E.g
  | [], vs, g, E, _, h => ⟨by cases vs <;> exact h, rfl, rfl⟩
  | p :: ps, [], g, E, _, h => ⟨h, rfl, rfl⟩
  | p :: ps, v :: vs, g, E, hp, h => by
    simp only [zipK, List.zip_cons_cons, List.foldl_cons]
    have := zipK_ok ps vs ((p, v) :: g) (E.put p v) (fun q hq => by simpa using hp q (List.mem_cons_of_mem _ hq)) (h.put (hp p List.mem_cons_self) v)
    simpa using this

/-- A round of a loop whose record lies in the heap. -/
theorem RoundP.enter {l : Nat} {args : List LV} {R : LOut → LH → Prop} {st : LoopState} {pend : Option Code} {fn : Nat} {env : Env} {ps : List Tmp} {a b : Code} {dn N G : Nat} (hl : H.get l = some (.loop st pend fn env ps a b dn))
    (hn : ps.length = args.length) (e1 : env.n = N) (e2 : env.g = G) (e3 : EK g env) (hp : (ps.all fun p => decide (p < N)) = true)
    (h : WP P { fn := fn, N := N, G := G, rnd := some l } [.code a, .beginRound, .code b] (zipK ps args g) H (FinR P l R)) : RoundP P l args H R := by
  rw [List.all_eq_true] at hp
  obtain ⟨k1, k2, k3⟩ := zipK_ok ps args g env (fun p hp' => by rw [e1]; exact of_decide_eq_true (hp p hp')) e3
  obtain ⟨r, hr, hQ⟩ := h _ (by rw [k2]; exact e1) (by rw [k3]; exact e2) k1
  cases r with
  | ret S => exact hQ.elim
  | jump j S =>
    obtain ⟨q1, st', pend', fn', env', ps', a', b', dn', q2, q3⟩ := hQ
    refine ⟨_, _, hr.of (fun rec r1 => ?_), q3⟩
    simp only [runStep, hl, hn, ne_eq, not_true, if_false]
    rw [show rec (.frame [.code a, .beginRound, .code b] { fn, E := (ps.zip args).foldl (fun E (p : Nat × LV) => E.put p.1 p.2) env, H, D := [], rnd := some l, pan := none }) = _ from r1]
    simp only [q1, q2]
  | panic v S =>
    obtain ⟨q1, ⟨fn', q2⟩, q3⟩ := hQ
    refine ⟨_, _, hr.of (fun rec r1 => ?_), q3⟩
    simp only [runStep, hl, hn, ne_eq, not_true, if_false]
    rw [show rec (.frame [.code a, .beginRound, .code b] { fn, E := (ps.zip args).foldl (fun E (p : Nat × LV) => E.put p.1 p.2) env, H, D := [], rnd := some l, pan := none }) = _ from r1]
    simp only [q1, q2]
end

/-! ### regions that draw their order, with pairs whose order is open -/
inductive RK where
  | read (i : Nat) (g : Kno) (next : Nat) (op : Op) (v : LV)
  | mut (i : Nat) (before : LH)
def RecR (G : Nat) : List DRec → List RK → Prop
  | [], [] => True
  | .read i E nx o v :: a, .read i' g nx' op v' :: b => (i = i' ∧ nx = nx' ∧ v = v' ∧ o.op = op ∧ E.g = G ∧ EK g E) ∧ RecR G a b
  | .mut i H :: a, .mut i' H' :: b => (i = i' ∧ H = H') ∧ RecR G a b
  | _, _ => False
def inA : List (Nat × Nat) → Nat → Nat → Bool
  | [], _, _ => false
  | (a, b) :: l, i, j => (Nat.beq a i && Nat.beq b j) || inA l i j
theorem inA_ahead {bf : Array Nat} {ah : List (Nat × Nat)} (h : (ah.all fun p => ahead bf p.1 p.2) = true) {i j : Nat} (hi : inA ah i j = true) : ahead bf i j = true := by
  induction ah with
  | nil => cases hi
  | cons p ah ih =>
    obtain ⟨a, b⟩ := p
    simp only [List.all_cons, Bool.and_eq_true] at h
    simp only [inA, Bool.or_eq_true, Bool.and_eq_true] at hi
    rcases hi with ⟨h1, h2⟩ | hi
    · have h1 := Nat.eq_of_beq_eq_true h1
      have h2 := Nat.eq_of_beq_eq_true h2
      subst h1 h2
      exact h.1
    · exact ih h.2 hi
/-- The reading operation at j stands against the changes made. -/
def okRd (P : Program) (G : Nat) (ah : List (Nat × Nat)) (j : Nat) (g : Kno) (nx : Nat) (op : Op) (v : LV) : List RK → Prop
  | [] => True
  | .read .. :: r => okRd P G ah j g nx op v r
  | .mut i before :: r => (inA ah i j = true ∨ ∃ H'', LK P G g { before with next := nx } op (.val v H'')) ∧ okRd P G ah j g nx op v r
/-- The changing operation at j, which left this heap, stands against the readings made. -/
def okMt (P : Program) (G : Nat) (ah : List (Nat × Nat)) (j : Nat) (H' : LH) : List RK → Prop
  | [] => True
  | .mut .. :: r => okMt P G ah j H' r
  | .read i g nx op v :: r => (inA ah i j = true ∨ ∃ H'', LK P G g { H' with next := nx } op (.val v H'')) ∧ okMt P G ah j H' r

theorem okRd_all {ops : Array Oper} {G : Nat} {ah : List (Nat × Nat)} (hah : (ah.all fun p => ahead (Region.before ops) p.1 p.2) = true) {j : Nat} {g : Kno} {nx : Nat} {op : Op} {v : LV} {E : Env} {o : Oper} (hE : EK g E) (hG : E.g = G) (ho : o.op = op) :
    ∀ {recs : List DRec} {rks : List RK}, RecR G recs rks → okRd P G ah j g nx op v rks → (recs.all fun
          | .mut i before => ahead (Region.before ops) i j || again P E { before with next := nx } o v
          | .read .. => true) = true
  | [], [], _, _ => rfl
  | .read .. :: a, .read .. :: b, h, k => by
    simp only [List.all_cons, Bool.true_and]
    exact okRd_all hah hE hG ho h.2 k
  | .mut i H :: a, .mut i' H' :: b, h, k => by
    obtain ⟨⟨rfl, rfl⟩, h2⟩ := h
    simp only [List.all_cons, Bool.and_eq_true, Bool.or_eq_true]
    refine ⟨?_, okRd_all hah hE hG ho h2 k.2⟩
    rcases k.1 with k1 | ⟨H'', k1⟩
    · exact .inl (inA_ahead hah k1)
    · right
      simp only [again, k1 E o hG hE ho, LV.beq_refl]
  | .read .. :: _, .mut .. :: _, h, _ => h.elim
  | .mut .. :: _, .read .. :: _, h, _ => h.elim
  | [], _ :: _, h, _ => h.elim
  | .read .. :: _, [], h, _ => h.elim
  | .mut .. :: _, [], h, _ => h.elim
theorem okMt_all {ops : Array Oper} {G : Nat} {ah : List (Nat × Nat)} (hah : (ah.all fun p => ahead (Region.before ops) p.1 p.2) = true) {j : Nat} {H : LH} :
    ∀ {recs : List DRec} {rks : List RK}, RecR G recs rks → okMt P G ah j H rks → (recs.all fun
            | .read i E next o' v' => ahead (Region.before ops) i j || again P E { H with next } o' v'
            | .mut _ _ => true) = true
  | [], [], _, _ => rfl
  | .mut .. :: a, .mut .. :: b, h, k => by
    simp only [List.all_cons, Bool.true_and]
    exact okMt_all hah h.2 k
  | .read i E nx o v :: a, .read i' g nx' op v' :: b, h, k => by
    obtain ⟨⟨rfl, rfl, rfl, ho, hG, hE⟩, h2⟩ := h
    simp only [List.all_cons, Bool.and_eq_true, Bool.or_eq_true]
    refine ⟨?_, okMt_all hah h2 k.2⟩
    rcases k.1 with k1 | ⟨H'', k1⟩
    · exact .inl (inA_ahead hah k1)
    · right
      simp only [again, k1 E o hG hE ho, LV.beq_refl]
  | .read .. :: _, .mut .. :: _, h, _ => h.elim
  | .mut .. :: _, .read .. :: _, h, _ => h.elim
  | [], _ :: _, h, _ => h.elim
  | .read .. :: _, [], h, _ => h.elim
  | .mut .. :: _, [], h, _ => h.elim

def WC (P : Program) (σ : FSt) (la : Bool) (ah : List (Nat × Nat)) (j : Nat) (rks : List RK) (l : List SOp) (k : List LItem) (g : Kno) (H : LH) (Q : FR → Prop) : Prop :=
  ∀ (ops : Array Oper) (l' : List Oper) (recs : List DRec), l'.map (slim1 ops) = l → (∀ o ∈ l', dstOk σ.N o.dst = true) → makesOk P ops = true ∧ atOk la ops l' j → (ah.all fun p => ahead (Region.before ops) p.1 p.2) = true → RecR σ.G recs rks →
    ∀ E, E.n = σ.N → E.g = σ.G → EK g E → ∃ r, (∃ n, drun P (runK P Known.kn n) ops true l' j recs (σ.at E H) = some r) ∧ DEnd P k Q r

class RegConf (P : Program) (c : Code) (N : Nat) (la : outParam Bool) (ah : outParam (List (Nat × Nat))) (l : outParam (List SOp)) : Prop where
  out : ∃ id ops, c = .region id ops true ∧ ops.toList.map (slim1 ops) = l ∧ (ops.toList.all fun o => dstOk N o.dst) = true ∧ (!(confl P ops).isEmpty) = true ∧ makesOk P ops = true ∧ (ah.all fun p => ahead (Region.before ops) p.1 p.2) = true ∧ lastOk ops = la

section
variable {σ : FSt} {la : Bool} {ah : List (Nat × Nat)} {j : Nat} {rks : List RK} {k : List LItem} {g : Kno} {H : LH} {Q : FR → Prop} {l : List SOp}

theorem WP.conf {c : Code} {N : Nat} [h : RegConf P c N la ah l] (hN : σ.N = N) (hw : WC P σ la ah 0 [] l k g H Q) : WP P σ (.code c :: k) g H Q := by
  obtain ⟨id, ops, rfl, h1, h2, h3, h4, h5, h6⟩ := h.out
  subst hN
  intro E e1 e2 e3
  obtain ⟨r, ⟨n, hn⟩, hr⟩ := hw ops ops.toList [] h1 (by rw [List.all_eq_true] at h2; exact h2) ⟨h4, by simp, fun hl => by rw [h6]; exact hl⟩ h5 trivial E e1 e2 e3
  cases r with
  | jump j S => exact hr.elim
  | panic v S =>
    refine ⟨_, ⟨n + 1, ?_⟩, hr⟩
    refine Kw.step' rfl ?_
    simp only [runStep]
    rw [h3, hn]
  | ret S =>
    obtain ⟨r, ⟨m, hm⟩, hQ⟩ := hr
    refine ⟨r, ⟨max n m + 1, ?_⟩, hQ⟩
    refine Kw.step' rfl ?_
    simp only [runStep]
    rw [h3, drun_mono (runK_le (Nat.le_max_left n m)) _ _ _ _ _ hn]
    exact runK_le (Nat.le_max_right n m) _ _ hm

theorem WC.nil (h : WP P σ k g H Q) : WC P σ la ah j rks [] k g H Q := by
  intro ops l' recs h1 _ _ _ _ E e1 e2 e3
  obtain rfl : l' = [] := by simpa using h1
  obtain ⟨r, hr, hQ⟩ := h E e1 e2 e3
  exact ⟨_, ⟨0, rfl⟩, r, hr, hQ⟩

theorem WC.cons_cases {so : SOp} (h : ∀ (ops : Array Oper) (o : Oper) (l' : List Oper) (recs : List DRec), slim1 ops o = so → l'.map (slim1 ops) = l → dstOk σ.N so.dst = true →
    (∀ o ∈ l', dstOk σ.N o.dst = true) → makesOk P ops = true ∧ atOk la ops (o :: l') j → (ah.all fun p => ahead (Region.before ops) p.1 p.2) = true → RecR σ.G recs rks →
    ∀ E, E.n = σ.N → E.g = σ.G → EK g E → ∃ r, (∃ n, drun P (runK P Known.kn n) ops true (o :: l') j recs (σ.at E H) = some r) ∧ DEnd P k Q r) : WC P σ la ah j rks (so :: l) k g H Q := by
  intro ops l' recs h1 h2 h3
  cases l' with
  | nil => simp at h1
  | cons o l' =>
    simp only [List.map_cons, List.cons.injEq] at h1
    obtain ⟨h1, h4⟩ := h1
    have hd : o.dst = so.dst := (slim_op h1).2
    exact h ops o l' recs h1 h4 (by rw [← hd]; exact h2 o List.mem_cons_self) (fun o' ho' => h2 o' (List.mem_cons_of_mem _ ho')) h3

/-- An operation that neither reads nor changes the heap, or makes a block. -/
theorem WC.val {op : Op} {d : Option Nat} {gd : Option (Nat × Bool)} {v : LV} {H' : LH} (hg : gk g gd = true) (hl : LK P σ.G g H op (.val v H')) (hm : ∀ o : Oper, o.op = op → okind P o = .free ∨ okind P o = .make) (h : WC P σ la ah (j + 1) rks l k (addK d v g) H' Q) : WC P σ la ah j rks (⟨op, d, gd⟩ :: l) k g H Q := by
  refine WC.cons_cases fun ops o l' recs h1 h2 h3 h4 h5 h6 h7 E e1 e2 e3 => ?_
  obtain ⟨s1, s2⟩ := slim_op h1
  obtain ⟨f1, f2, f3⟩ := putO_ok (d := d) h3 v E e1 e2 e3
  have hw : wantedL ops (σ.at E H).E o = some true := slim_yes h1 e3 hg
  have hlo : lop P (σ.at E H).E (σ.at E H).H o = some (.val v H') := hl E o e2 e3 s1
  obtain ⟨r, ⟨n, hn⟩, hr⟩ := h ops l' recs h2 h4 ⟨h5.1, h5.2.step⟩ h6 h7 (E.putO d v) f1 f2 f3
  refine ⟨r, ⟨n, ?_⟩, hr⟩
  have hu : hidU P ops (σ.at E H).E j o = some [] := hidU_ok h5.1
  simp only [drun, hw, hu, LH.hide, hlo]
  rw [s2]
  rcases hm o s1 with hk | hk <;> rw [hk] <;> exact hn

theorem WC.read {op : Op} {d : Option Nat} {gd : Option (Nat × Bool)} {v : LV} {H' : LH} (hg : gk g gd = true) (hl : LK P σ.G g H op (.val v H')) (hm : ∀ o : Oper, o.op = op → okind P o = .read) (hc : okRd P σ.G ah j g H.next op v rks)
    (h : WC P σ la ah (j + 1) (.read j g H.next op v :: rks) l k (addK d v g) H' Q) : WC P σ la ah j rks (⟨op, d, gd⟩ :: l) k g H Q := by
  refine WC.cons_cases fun ops o l' recs h1 h2 h3 h4 h5 h6 h7 E e1 e2 e3 => ?_
  obtain ⟨s1, s2⟩ := slim_op h1
  obtain ⟨f1, f2, f3⟩ := putO_ok (d := d) h3 v E e1 e2 e3
  have hw : wantedL ops (σ.at E H).E o = some true := slim_yes h1 e3 hg
  have hlo : lop P (σ.at E H).E (σ.at E H).H o = some (.val v H') := hl E o e2 e3 s1
  obtain ⟨r, ⟨n, hn⟩, hr⟩ := h ops l' (.read j E H.next o v :: recs) h2 h4 ⟨h5.1, h5.2.step⟩ h6 ⟨⟨rfl, rfl, rfl, s1, e2, e3⟩, h7⟩ (E.putO d v) f1 f2 f3
  refine ⟨r, ⟨n, ?_⟩, hr⟩
  have hu : hidU P ops (σ.at E H).E j o = some [] := hidU_ok h5.1
  simp only [drun, hw, hu, LH.hide, hlo, hm o s1]
  have hall := okRd_all h6 e3 e2 s1 h7 hc
  rw [if_neg (by
    simp only [Bool.true_and, Bool.not_eq_true', Bool.not_eq_false]
    exact hall)]
  rw [s2]
  exact hn

theorem WC.no {op : Op} {d : Option Nat} {gd : Option (Nat × Bool)} (hg : gkn g gd = true) (h : WC P σ la ah (j + 1) rks l k (addK d undefV g) H Q) : WC P σ la ah j rks (⟨op, d, gd⟩ :: l) k g H Q := by
  refine WC.cons_cases fun ops o l' recs h1 h2 h3 h4 h5 h6 h7 E e1 e2 e3 => ?_
  obtain ⟨s1, s2⟩ := slim_op h1
  obtain ⟨f1, f2, f3⟩ := putO_ok (d := d) h3 undefV E e1 e2 e3
  have hw : wantedL ops (σ.at E H).E o = some false := slim_no h1 e3 hg
  obtain ⟨r, ⟨n, hn⟩, hr⟩ := h ops l' recs h2 h4 ⟨h5.1, h5.2.step⟩ h6 h7 (E.putO d undefV) f1 f2 f3
  refine ⟨r, ⟨n, ?_⟩, hr⟩
  simp only [drun, hw, s2]
  exact hn
theorem WC.again {s : Nat} {v : LV} (hs : lk g s = some v) (h : WC P σ la ah j rks l k ((s, v) :: g) H Q) : WC P σ la ah j rks l k g H Q :=
  fun ops l' recs h1 h2 h3 h4 h5 E e1 e2 e3 => h ops l' recs h1 h2 h3 h4 h5 E e1 e2 (e3.again hs)
theorem WC.guard {op : Op} {d : Option Nat} {s : Nat} {w b : Bool} (hg : lk g s = some (.bool b))
    (ht : b = w → WC P σ la ah j rks (⟨op, d, some (s, w)⟩ :: l) k ((s, .bool w) :: g) H Q) (hf : b = (!w) → WC P σ la ah j rks (⟨op, d, some (s, w)⟩ :: l) k ((s, .bool (!w)) :: g) H Q) : WC P σ la ah j rks (⟨op, d, some (s, w)⟩ :: l) k g H Q := by
  by_cases e : b = w
  · subst e; exact (ht rfl).again hg
  · have e : b = (!w) := by cases b <;> cases w <;> simp_all
    subst e; exact (hf rfl).again hg

theorem drun_mut {rec : Task → Option Res} {ops : Array Oper} {o : Oper} {l' : List Oper} {recs : List DRec} {S : FS} {v : LV} {H1 : LH} {r : Option FR} (hw : wantedL ops S.E o = some true) (h5 : makesOk P ops = true) (hm : okind P o = .mut)
    (hres : (match lop P S.E S.H o with
      | some (.val v H) => some (v, H, false)
      | some (.skip H) => some (undefV, H, false)
      | some (.call f args) => (match rec (.call f args S.H) with | some (.out (.ret v) H) => some (v, H, false) | some (.out (.panic v) H) => some (v, H, true) | _ => none)
      | some (.round f args) => (match rec (.round f args S.H) with | some (.out (.ret v) H) => some (v, H, false) | some (.out (.panic v) H) => some (v, H, true) | _ => none)
      | _ => none) = some (v, H1, false))
    (hall : (recs.all fun
            | .read i E next o' v' => ahead (Region.before ops) i j || again P E { H1 with next } o' v'
            | .mut _ _ => true) = true) (hn : drun P rec ops true l' (j + 1) (.mut j S.H :: recs) { S with E := S.E.putO o.dst v, H := H1 } = r) : drun P rec ops true (o :: l') j recs S = r := by
  have hu : hidU P ops S.E j o = some [] := hidU_ok h5
  unfold drun
  simp only [hw, hu, LH.hide, hm]
  cases hl : lop P S.E S.H o with
  | none => rw [hl] at hres; cases hres
  | some q =>
    rw [hl] at hres
    simp only
    cases q <;> simp only at hres ⊢ <;> first
      | (cases hres; done)
      | (split at hres <;> first
          | (cases hres; done)
          | (rename_i hr; cases hres; rw [hr]; simp only [LH.back, ↓reduceIte]; rw [if_neg (by simp only [Bool.true_and, Bool.not_eq_true', Bool.not_eq_false]; exact hall)]; exact hn))
      | (rw [hres]; simp only [LH.back, ↓reduceIte]; rw [if_neg (by simp only [Bool.true_and, Bool.not_eq_true', Bool.not_eq_false]; exact hall)]; exact hn)
      | (cases hres; simp only [LH.back, ↓reduceIte]; rw [if_neg (by simp only [Bool.true_and, Bool.not_eq_true', Bool.not_eq_false]; exact hall)]; exact hn)

theorem WC.mut {op : Op} {d : Option Nat} {gd : Option (Nat × Bool)} {v : LV} {H' : LH} (hg : gk g gd = true) (hl : LK P σ.G g H op (.val v H')) (hm : ∀ o : Oper, o.op = op → okind P o = .mut) (hc : okMt P σ.G ah j H' rks)
    (h : WC P σ la ah (j + 1) (.mut j H :: rks) l k (addK d v g) H' Q) : WC P σ la ah j rks (⟨op, d, gd⟩ :: l) k g H Q := by
  refine WC.cons_cases fun ops o l' recs h1 h2 h3 h4 h5 h6 h7 E e1 e2 e3 => ?_
  obtain ⟨s1, s2⟩ := slim_op h1
  obtain ⟨f1, f2, f3⟩ := putO_ok (d := d) h3 v E e1 e2 e3
  have hw : wantedL ops (σ.at E H).E o = some true := slim_yes h1 e3 hg
  have hlo : lop P (σ.at E H).E (σ.at E H).H o = some (.val v H') := hl E o e2 e3 s1
  obtain ⟨r, ⟨n, hn⟩, hr⟩ := h ops l' (.mut j H :: recs) h2 h4 ⟨h5.1, h5.2.step⟩ h6 ⟨⟨rfl, rfl⟩, h7⟩ (E.putO d v) f1 f2 f3
  refine ⟨r, ⟨n, ?_⟩, hr⟩
  refine drun_mut hw h5.1 (hm o s1) (by rw [hlo]) (okMt_all h6 h7 hc) ?_
  rw [s2]; exact hn
theorem WC.skip {op : Op} {d : Option Nat} {gd : Option (Nat × Bool)} {H' : LH} (hg : gk g gd = true) (hl : LK P σ.G g H op (.skip H')) (hm : ∀ o : Oper, o.op = op → okind P o = .mut) (hc : okMt P σ.G ah j H' rks)
    (h : WC P σ la ah (j + 1) (.mut j H :: rks) l k (addK d undefV g) H' Q) : WC P σ la ah j rks (⟨op, d, gd⟩ :: l) k g H Q := by
  refine WC.cons_cases fun ops o l' recs h1 h2 h3 h4 h5 h6 h7 E e1 e2 e3 => ?_
  obtain ⟨s1, s2⟩ := slim_op h1
  obtain ⟨f1, f2, f3⟩ := putO_ok (d := d) h3 undefV E e1 e2 e3
  have hw : wantedL ops (σ.at E H).E o = some true := slim_yes h1 e3 hg
  have hlo : lop P (σ.at E H).E (σ.at E H).H o = some (.skip H') := hl E o e2 e3 s1
  obtain ⟨r, ⟨n, hn⟩, hr⟩ := h ops l' (.mut j H :: recs) h2 h4 ⟨h5.1, h5.2.step⟩ h6 ⟨⟨rfl, rfl⟩, h7⟩ (E.putO d undefV) f1 f2 f3
  refine ⟨r, ⟨n, ?_⟩, hr⟩
  refine drun_mut hw h5.1 (hm o s1) (by rw [hlo]) (okMt_all h6 h7 hc) ?_
  rw [s2]; exact hn

/-- What a call leaves behind it, in such a region. -/
def ThenC (P : Program) (σ : FSt) (la : Bool) (ah : List (Nat × Nat)) (j : Nat) (rks : List RK) (l : List SOp) (k : List LItem) (d : Option Nat) (g : Kno) (H : LH) (Q : FR → Prop) : LOut → LH → Prop
  | .ret v, H' => okMt P σ.G ah j H' rks ∧ WC P σ la ah (j + 1) (.mut j H :: rks) l k (addK d v g) H' Q
  | .panic v, H' => (la = true ∧ l = []) ∧ ∀ E, E.n = σ.N → E.g = σ.G → EK g E → Q (.panic v (σ.at E H'))
theorem WC.call {op : Op} {d : Option Nat} {gd : Option (Nat × Bool)} {f : Nat} {args : List LV} (hg : gk g gd = true) (hl : LK P σ.G g H op (.call f args)) (hm : ∀ o : Oper, o.op = op → okind P o = .mut) (h : CallP P f args H (ThenC P σ la ah j rks l k d g H Q)) : WC P σ la ah j rks (⟨op, d, gd⟩ :: l) k g H Q := by
  refine WC.cons_cases fun ops o l' recs h1 h2 h3 h4 h5 h6 h7 E e1 e2 e3 => ?_
  obtain ⟨s1, s2⟩ := slim_op h1
  obtain ⟨out, H', ⟨m, hc⟩, hth⟩ := h
  have hw : wantedL ops (σ.at E H).E o = some true := slim_yes h1 e3 hg
  have hlo : lop P (σ.at E H).E (σ.at E H).H o = some (.call f args) := hl E o e2 e3 s1
  cases out with
  | panic v =>
    obtain ⟨⟨hla, rfl⟩, hQ⟩ := hth
    obtain rfl : l' = [] := by simpa using h2
    refine ⟨.panic v (σ.at E H'), ⟨m, ?_⟩, hQ E e1 e2 e3⟩
    have hc' : runK P Known.kn m (.call f args (σ.at E H).H) = some (.out (.panic v) H') := hc
    have hla := h5.2.last hla
    simp only [drun, hw, hidU_ok h5.1, LH.hide, LH.back, hlo, hm o s1, hc', List.isEmpty_nil, hla, Bool.and_self, if_true]
    rfl
  | ret v =>
    obtain ⟨f1, f2, f3⟩ := putO_ok (d := d) h3 v E e1 e2 e3
    obtain ⟨r, ⟨n, hn⟩, hr⟩ := hth.2 ops l' (.mut j H :: recs) h2 h4 ⟨h5.1, h5.2.step⟩ h6 ⟨⟨rfl, rfl⟩, h7⟩ (E.putO d v) f1 f2 f3
    refine ⟨r, ⟨max n m, ?_⟩, hr⟩
    have hc' : runK P Known.kn (max n m) (.call f args (σ.at E H).H) = some (.out (.ret v) H') := runK_le (Nat.le_max_right n m) _ _ hc
    refine drun_mut (v := v) (H1 := H') hw h5.1 (hm o s1) (by rw [hlo]; simp only; rw [hc']) (okMt_all h6 h7 hth.1) ?_
    rw [s2]
    exact drun_mono (runK_le (P := P) (Nat.le_max_left n m)) _ _ _ _ _ hn
theorem WC.round {op : Op} {d : Option Nat} {gd : Option (Nat × Bool)} {f : Nat} {args : List LV} (hg : gk g gd = true) (hl : LK P σ.G g H op (.round f args)) (hm : ∀ o : Oper, o.op = op → okind P o = .mut) (h : RoundP P f args H (ThenC P σ la ah j rks l k d g H Q)) : WC P σ la ah j rks (⟨op, d, gd⟩ :: l) k g H Q := by
  refine WC.cons_cases fun ops o l' recs h1 h2 h3 h4 h5 h6 h7 E e1 e2 e3 => ?_
  obtain ⟨s1, s2⟩ := slim_op h1
  obtain ⟨out, H', ⟨m, hc⟩, hth⟩ := h
  have hw : wantedL ops (σ.at E H).E o = some true := slim_yes h1 e3 hg
  have hlo : lop P (σ.at E H).E (σ.at E H).H o = some (.round f args) := hl E o e2 e3 s1
  cases out with
  | panic v =>
    obtain ⟨⟨hla, rfl⟩, hQ⟩ := hth
    obtain rfl : l' = [] := by simpa using h2
    refine ⟨.panic v (σ.at E H'), ⟨m, ?_⟩, hQ E e1 e2 e3⟩
    have hc' : runK P Known.kn m (.round f args (σ.at E H).H) = some (.out (.panic v) H') := hc
    have hla := h5.2.last hla
    simp only [drun, hw, hidU_ok h5.1, LH.hide, LH.back, hlo, hm o s1, hc', List.isEmpty_nil, hla, Bool.and_self, if_true]
    rfl
  | ret v =>
    obtain ⟨f1, f2, f3⟩ := putO_ok (d := d) h3 v E e1 e2 e3
    obtain ⟨r, ⟨n, hn⟩, hr⟩ := hth.2 ops l' (.mut j H :: recs) h2 h4 ⟨h5.1, h5.2.step⟩ h6 ⟨⟨rfl, rfl⟩, h7⟩ (E.putO d v) f1 f2 f3
    refine ⟨r, ⟨max n m, ?_⟩, hr⟩
    have hc' : runK P Known.kn (max n m) (.round f args (σ.at E H).H) = some (.out (.ret v) H') := runK_le (Nat.le_max_right n m) _ _ hc
    refine drun_mut (v := v) (H1 := H') hw h5.1 (hm o s1) (by rw [hlo]; simp only; rw [hc']) (okMt_all h6 h7 hth.1) ?_
    rw [s2]
    exact drun_mono (runK_le (P := P) (Nat.le_max_left n m)) _ _ _ _ _ hn
end
end
end Go.Lv
