/- Lv: the evaluator in a form that the kernel runs fast: whole functions; it is sound. -/
import Derived.Test.YtdbpidkbpiidiaaGreatDoorLvFastB
namespace Go.Lv
open Go
set_option linter.unusedVariables false
set_option linter.unusedSimpArgs false

/-- The slots of an environment. -/
noncomputable def ofE (E : Env) : Sl := ⟨E.t, fun k => getP (pathOf k) E.t, fun k => getP (pathOf k) E.t, fun k => by cases cls k <;> exact getP_eq _ _⟩
theorem mkE_ofE (E : Env) : mkE E.n E.g (ofE E) = E := rfl
noncomputable def guardX (ops : Array Oper) (o : Oper) (n : Nat) (next one : Bx Ex) : Bx Ex :=
  match o.guard with
  | none => one
  | some (j, want) =>
    match (ops[j]?).bind (·.dst) with
    | some s => ⟨fun cx t H dp => thenF ((rdB s).f t) fun v => match v with
        | .bool b => Bool.rec (Bool.rec (one.f cx t H dp) ((putB n o.dst).f undefV t (fun t => next.f cx t H dp)) want) (Bool.rec ((putB n o.dst).f undefV t (fun t => next.f cx t H dp)) (one.f cx t H dp) want) b
        | _ => (putB n o.dst).f undefV t (fun t => next.f cx t H dp)⟩
    | none => failX
noncomputable def regX (P : Program) (tb : Tab) (n G : Nat) (ops : Array Oper) (l : List Oper) : Bx Ex :=
  List.rec ⟨fun _ t H dp => some (.ret t H dp)⟩ (fun o _ ih => guardX ops o n ih (opX P tb .any n G o.op o.dst ih)) l

/-! a region that draws its order -/
def mkB (n G : Nat) (s : Option Sl) : Env := match s with | some s => mkE n G s | none => ⟨n, G, .leaf⟩
noncomputable def chkM (P : Program) (ops : Array Oper) (j : Nat) (H : LH) (recs : List DRec) : Bool :=
  recs.all fun
    | .read i E next o' v' => ahead (Region.before ops) i j || again P E { H with next } o' v'
    | .mut _ _ => true
noncomputable def chkR (P : Program) (ops : Array Oper) (j : Nat) (E : Env) (H : LH) (o : Oper) (v : LV) (recs : List DRec) : Bool :=
  recs.all fun
    | .mut i before => ahead (Region.before ops) i j || again P E { before with next := H.next } o v
    | .read .. => true
noncomputable def postM (P : Program) (ops : Array Oper) (j : Nat) (next : Bx Ex) : Bx Ex := ⟨fun cx t H dp =>
  bif chkM P ops j H dp.recs then next.f cx t H { dp with recs := .mut j dp.bH :: dp.recs } else none⟩
noncomputable def postR (P : Program) (n G : Nat) (ops : Array Oper) (j : Nat) (o : Oper) (k : Nat) (next : Bx Ex) : Bx Ex := ⟨fun cx t H dp =>
  thenF ((rdB k).f t) fun v => bif chkR P ops j (mkB n G dp.bt) dp.bH o v dp.recs then next.f cx t H { dp with recs := .read j (mkB n G dp.bt) dp.bH.next o v :: dp.recs } else none⟩
noncomputable def preX (x : Bx Ex) : Bx Ex := ⟨fun cx t H dp => x.f cx t H { dp with bt := some t, bH := H }⟩
noncomputable def opD (P : Program) (tb : Tab) (n G : Nat) (ops : Array Oper) (chk : Bool) (j : Nat) (o : Oper) (next : Bx Ex) : Bx Ex :=
  match okind P o with
  | .mut => bif chk then preX (opX P tb .chg n G o.op o.dst (postM P ops j next)) else opX P tb .chg n G o.op o.dst next
  | .read => bif chk then (match o.dst with
      | some k => bif Nat.blt k n then preX (opX P tb .val n G o.op o.dst (postR P n G ops j o k next)) else failX
      | none => failX) else opX P tb .val n G o.op o.dst next
  | _ => opX P tb .val n G o.op o.dst next
noncomputable def regD (P : Program) (tb : Tab) (n G : Nat) (ops : Array Oper) (chk : Bool) : List Oper → Nat → Bx Ex
  | [], _ => ⟨fun _ t H dp => some (.ret t H dp)⟩
  | o :: rest, j => guardX ops o n (regD P tb n G ops chk rest (j + 1)) (opD P tb n G ops chk j o (regD P tb n G ops chk rest (j + 1)))
noncomputable def slowD (P : Program) (n G : Nat) (ops : Array Oper) (chk : Bool) (l : List Oper) : Bx Ex := ⟨fun cx t H dp =>
  match drun P cx.ask ops chk l 0 [] ⟨cx.fn, mkE n G t, H, dp.D, cx.rnd, dp.pan⟩ with
  | some (.ret S) => some (.ret (ofE S.E) S.H { D := S.D, pan := S.pan })
  | some (.panic v S) => some (.panic v (ofE S.E) S.H { D := S.D, pan := S.pan })
  | _ => none⟩
noncomputable def drawF (fast slow : Bx Ex) : Bx Ex := ⟨fun cx t H dp =>
  match fast.f cx t H { dp with recs := [] } with
  | some x => some x
  | none => slow.f cx t H dp⟩
noncomputable def drawX (P : Program) (tb : Tab) (n G : Nat) (ops : Array Oper) (chk : Bool) (l : List Oper) : Bx Ex :=
  bif makesOk P ops then drawF (regD P tb n G ops chk l 0) (slowD P n G ops chk l) else slowD P n G ops chk l

def seqX (a b : Bx Ex) : Ex := fun cx t H dp =>
  match a.f cx t H dp with
  | some (.ret t H dp) => b.f cx t H dp
  | r => r
noncomputable def condX (G : Nat) (c : Operand) (a b : Bx Ex) : Ex := fun cx t H dp => thenF ((evB G c).f t) fun q => boolOr q (a.f cx t H dp) (b.f cx t H dp)
def blockX (id : Nat) (a : Bx Ex) : Ex := fun cx t H dp =>
  match a.f cx t H dp with
  | some (.jump (.exit i) t H dp) => bif Nat.beq i id then some (.ret t H dp) else some (.jump (.exit i) t H dp)
  | r => r
noncomputable def loopX (a : Bx Ex) (n : Nat) : Ex := Nat.rec (fun _ _ _ _ => none) (fun _ ih cx t H dp =>
    match a.f cx t H dp with
    | some (.ret t H dp) => ih cx t H dp
    | r => r) n
noncomputable def scopeX (c : Code) (ex : Code → Bx Ex) (n : Nat) : Code → Ex := Nat.rec (fun _ _ _ _ _ => none) (fun _ ih a cx t H dp =>
    match (ex a).f cx t H dp with
    | some (.jump (.goto l) t H dp) =>
      match findLabel c l with
      | some rest => ih rest cx t H dp
      | none => some (.jump (.goto l) t H dp)
    | r => r) n
def fsOf (n G fn : Nat) (rnd : Option Nat) (t : Sl) (H : LH) (dp : DP) : FS := ⟨fn, mkE n G t, H, dp.D, rnd, dp.pan⟩
def isJ : Code → Bool
  | .ret => true
  | .exit _ => true
  | .goto _ => true
  | _ => false
theorem isJ_spec {j : Code} (h : isJ j = true) : j = .ret ∨ (∃ i, j = .exit i) ∨ ∃ l, j = .goto l := by
  cases j <;> simp_all [isJ]
noncomputable def rangeX (P : Program) (n G : Nat) (f : Operand) (params : Array Tmp) (assign body : Code) : Ex := fun cx t H dp =>
  let S : FS := fsOf n G cx.fn cx.rnd t H dp
  match (evB G f).f t with
  | none => none
  | some g =>
    if ¬ rangeStands S then none else
    match callValue P (rangeLoop S params assign body) g [.yield (rangeOpen S).1.next] with
    | some (.call f args) =>
      match cx.ask (.call f args (rangeLoop S params assign body)) with
      | some (.out (.ret _) H') =>
        match H'.get (rangeOpen S).1.next with
        | some (.loop st pend fn' env ps a b dn) =>
          if st = .busy then none else
          match pend with
          | some c => if isJ c = false then none else some (.jump c t (H'.put (rangeOpen S).1.next (.loop .exhausted pend fn' env ps a b dn)) { D := (rangeOpen S).2.1, pan := dp.pan })
          | none => some (.ret t (H'.put (rangeOpen S).1.next (.loop .exhausted pend fn' env ps a b dn)) { D := (rangeOpen S).2.1, pan := dp.pan })
        | _ => none
      | some (.out (.panic v) H') => some (.panic v t H' { D := (rangeOpen S).2.1, pan := dp.pan })
      | _ => none
    | _ => none

/-- How often a loop may go round. -/
def maxRounds : Nat := 1000000
noncomputable def exX (P : Program) (tb : Tab) (n G : Nat) : Nat → Code → Bx Ex
  | 0, _ => failX
  | d + 1, c =>
    match c with
    | .skip => ⟨fun cx t H dp => some (.ret t H dp)⟩
    | .label _ => ⟨fun cx t H dp => some (.ret t H dp)⟩
    | .ret => ⟨fun cx t H dp => some (.jump .ret t H dp)⟩
    | .exit i => ⟨fun cx t H dp => some (.jump (.exit i) t H dp)⟩
    | .goto l => ⟨fun cx t H dp => some (.jump (.goto l) t H dp)⟩
    | .seq a b => ⟨seqX (exX P tb n G d a) (exX P tb n G d b)⟩
    | .cond c a b => ⟨condX G c (exX P tb n G d a) (exX P tb n G d b)⟩
    | .block i a => ⟨blockX i (exX P tb n G d a)⟩
    | .loop a => ⟨loopX (exX P tb n G d a) maxRounds⟩
    | .scope a => ⟨scopeX a (exX P tb n G d) maxRounds a⟩
    | .region _ ops false => regX P tb n G ops ops.toList
    | .region _ ops true => drawX P tb n G ops (!(confl P ops).isEmpty) ops.toList
    | .rangeFunc f ps a b => ⟨rangeX P n G f ps a b⟩
    | _ => failX


section
variable {P : Program} {n G fn : Nat} {rnd : Option Nat} {tb : Tab}

/-- The frame from which this is known, by what the ready text comes to. -/
def Leads (P : Program) (n G : Nat) (cx : Cx) (K : List LItem → List LItem) (S0 : FS) : XR → Prop
  | .ret t' H' dp' => ∀ k r, Kn P (.frame k (fsOf n G cx.fn cx.rnd t' H' dp')) r → Kn P (.frame (K k) S0) r
  | .panic v t' H' dp' => ∀ k, Kn P (.frame (K k) S0) (.fr (.panic v (fsOf n G cx.fn cx.rnd t' H' dp')))
  | .jump j t' H' dp' => (j = .ret ∨ (∃ i, j = .exit i) ∨ ∃ l, j = .goto l) ∧ ∀ k r, Kn P (.frame (.code j :: k) (fsOf n G cx.fn cx.rnd t' H' dp')) r → Kn P (.frame (K k) S0) r
theorem Leads.pre {cx : Cx} {K K' : List LItem → List LItem} {S0 S1 : FS} {x : XR} (h : Leads P n G cx K' S1 x) (he : ∀ k r, Kn P (.frame (K' k) S1) r → Kn P (.frame (K k) S0) r) : Leads P n G cx K S0 x := by
  cases x with
  | ret t' H' dp' => exact fun k r hk => he _ _ (h k r hk)
  | panic v t' H' dp' => exact fun k => he _ _ (h k)
  | jump j t' H' dp' => exact ⟨h.1, fun k r hk => he _ _ (h.2 k r hk)⟩
/-- What the ready text comes to, the frame with these items ahead comes to. -/
def Snd (P : Program) (n G : Nat) (it : LItem) (e : Ex) : Prop := ∀ (cx : Cx) (t : Sl) (H : LH) (dp : DP) (x : XR), (∀ t r, cx.ask t = some r → Kn P t r) → e cx t H dp = some x →
  Leads P n G cx (it :: ·) (fsOf n G cx.fn cx.rnd t H dp) x

theorem opt_cases {α : Type} (x : Option α) : x = none ∨ ∃ y, x = some y := by cases x; exact .inl rfl; exact .inr ⟨_, rfl⟩
theorem step_snd {ops : Array Oper} {o : Oper} {rest : List Oper} {next : Bx Ex} (hn : Snd P n G (.ops ops rest) next.f) {cx : Cx} {t : Sl} {H : LH} {dp : DP} {x : XR} (hq : ∀ t r, cx.ask t = some r → Kn P t r)
    (hw : wantedL ops (mkE n G t) o = some true) (h : stepG .any n o.dst next (lop P (mkE n G t) H o) cx t H dp = some x) : Leads P n G cx (.ops ops (o :: rest) :: ·) (fsOf n G cx.fn cx.rnd t H dp) x := by
  -- to hand on what the rest says
  have pass : ∀ {vv : LV} {H1 : LH} {dp1 : DP}, ((putB n o.dst).f vv t fun t => next.f cx t H1 dp1) = some x →
      (∀ k r, Kn P (.frame (.ops ops rest :: k) (fsOf n G cx.fn cx.rnd (putS n o.dst vv t) H1 dp1)) r → Kn P (.frame (.ops ops (o :: rest) :: k) (fsOf n G cx.fn cx.rnd t H dp)) r) → Leads P n G cx (.ops ops (o :: rest) :: ·) (fsOf n G cx.fn cx.rnd t H dp) x :=
    fun {vv H1 dp1} h1 h2 => (hn cx _ _ _ x hq ((putB_k n o.dst vv t (fun t => next.f cx t H1 dp1)).symm.trans h1)).pre h2
  cases hl : lop P (mkE n G t) H o with
  | none => rw [hl] at h; cases h
  | some q =>
    rw [hl] at h
    cases q with
    | val v H' =>
      refine pass h fun k r hk => hk.of fun rec hr => ?_
      simp only [runStep, fsOf] at hr ⊢
      rw [hw, hl]
      rw [putB_eq] at hr
      exact hr
    | skip H' =>
      refine pass h fun k r hk => hk.of fun rec hr => ?_
      simp only [runStep, fsOf] at hr ⊢
      rw [hw, hl]
      rw [putB_eq] at hr
      exact hr
    | call f args =>
      simp only [stepG] at h
      cases ha : cx.ask (.call f args H) with
      | none => rw [ha] at h; cases h
      | some y =>
        rw [ha] at h
        have hkn := hq _ _ ha
        cases y with
        | fr z => cases h
        | out z H' =>
          cases z with
          | ret v =>
            refine pass h fun k r hk => hkn.of2 hk fun rec h1 hr => ?_
            simp only [runStep, fsOf] at hr ⊢
            rw [hw, hl]
            simp only
            rw [h1]
            rw [putB_eq] at hr
            exact hr
          | panic v =>
            cases h
            refine fun k => hkn.of fun rec h1 => ?_
            simp only [runStep, fsOf]
            rw [hw, hl]
            simp only
            rw [h1]
    | round f args =>
      simp only [stepG] at h
      cases ha : cx.ask (.round f args H) with
      | none => rw [ha] at h; cases h
      | some y =>
        rw [ha] at h
        have hkn := hq _ _ ha
        cases y with
        | fr z => cases h
        | out z H' =>
          cases z with
          | ret v =>
            refine pass h fun k r hk => hkn.of2 hk fun rec h1 hr => ?_
            simp only [runStep, fsOf] at hr ⊢
            rw [hw, hl]
            simp only
            rw [h1]
            rw [putB_eq] at hr
            exact hr
          | panic v =>
            cases h
            refine fun k => hkn.of fun rec h1 => ?_
            simp only [runStep, fsOf]
            rw [hw, hl]
            simp only
            rw [h1]
    | defer df =>
      simp only [stepG] at h
      rcases opt_cases cx.rnd with hr0 | ⟨l, hr0⟩
      case inr => rw [hr0] at h; cases h
      case inl =>
        rw [hr0] at h
        refine pass h fun k r hk => hk.of fun rec hr => ?_
        simp only [runStep, fsOf, hr0] at hr ⊢
        rw [hw, hl]
        rw [putB_eq] at hr
        exact hr
    | recov =>
      simp only [stepG] at h
      rcases opt_cases cx.rnd with hr0 | ⟨l, hr0⟩
      case inr => rw [hr0] at h; cases h
      case inl =>
        rw [hr0] at h
        rcases opt_cases dp.pan with hp | ⟨vb, hp⟩
        case inl =>
          rw [hp] at h
          refine pass h fun k r hk => hk.of fun rec hr => ?_
          simp only [runStep, fsOf, hr0, hp] at hr ⊢
          rw [hw, hl]
          rw [putB_eq] at hr
          exact hr
        case inr =>
          obtain ⟨v, b⟩ := vb
          rw [hp] at h
          cases b with
          | true => cases h
          | false =>
            refine pass h fun k r hk => hk.of fun rec hr => ?_
            simp only [runStep, fsOf, hr0, hp] at hr ⊢
            rw [hw, hl]
            rw [putB_eq] at hr
            exact hr
    | panic v =>
      cases h
      refine fun k => Kn.now fun rec => ?_
      simp only [runStep, fsOf]
      rw [hw, hl]

theorem no_snd {ops : Array Oper} {o : Oper} {rest : List Oper} {next : Bx Ex} (hn : Snd P n G (.ops ops rest) next.f) {cx : Cx} {t : Sl} {H : LH} {dp : DP} {x : XR} (hq : ∀ t r, cx.ask t = some r → Kn P t r)
    (hw : wantedL ops (mkE n G t) o = some false) (h : (putB n o.dst).f undefV t (fun t => next.f cx t H dp) = some x) : Leads P n G cx (.ops ops (o :: rest) :: ·) (fsOf n G cx.fn cx.rnd t H dp) x :=
  (hn cx _ H dp x hq ((putB_k n o.dst undefV t (fun t => next.f cx t H dp)).symm.trans h)).pre fun k r hk => hk.of fun rec hr => by
    simp only [runStep, fsOf] at hr ⊢
    rw [hw]
    rw [putB_eq] at hr
    exact hr

def wantV (want : Bool) : LV → Option Bool
  | .bool b => some (b == want)
  | _ => some false
theorem wanted_at {ops : Array Oper} {o : Oper} {j : Nat} {want : Bool} {s : Nat} {t : Sl} {v : LV} (hg : o.guard = some (j, want)) (hd : (ops[j]?).bind (·.dst) = some s) (hs : t.t.get s = some v) :
    wantedL ops (mkE n G t) o = wantV want v := by
  simp only [wantedL, hg, hd, Option.bind_some]
  rw [show (mkE n G t).get s = t.t.get s from rfl, hs]
  cases v <;> rfl
theorem regX_snd (hT : TabOk P tb) {ops : Array Oper} : ∀ l : List Oper, Snd P n G (.ops ops l) (regX P tb n G ops l).f
  | [] => fun cx t H dp x hq h => by
    cases h
    exact fun k r hk => hk.of fun rec hr => hr
  | o :: rest => fun cx t H dp x hq h => by
    have ih := regX_snd hT (ops := ops) rest
    have one : ∀ {x}, (opX P tb .any n G o.op o.dst (regX P tb n G ops rest)).f cx t H dp = some x → stepG .any n o.dst (regX P tb n G ops rest) (lop P (mkE n G t) H o) cx t H dp = some x := fun {x} h => by
      rw [opX_eq hT, lopB_eq] at h; exact h
    have h' : (guardX ops o n (regX P tb n G ops rest) (opX P tb .any n G o.op o.dst (regX P tb n G ops rest))).f cx t H dp = some x := h
    unfold guardX at h'
    cases hg : o.guard with
    | none =>
      rw [hg] at h'
      exact step_snd ih hq (by simp only [wantedL, hg]) (one h')
    | some p =>
      obtain ⟨j, want⟩ := p
      rw [hg] at h'
      simp only at h'
      cases hd : (ops[j]?).bind (·.dst) with
      | none => rw [hd] at h'; cases h'
      | some s =>
        rw [hd] at h'
        simp only at h'
        rw [rdB_eq] at h'
        cases hs : t.t.get s with
        | none => rw [hs] at h'; cases h'
        | some v =>
          rw [hs] at h'
          have hw := wanted_at (n := n) (G := G) hg hd hs
          simp only [thenF_some] at h'
          cases v with
          | bool b =>
            cases b <;> cases want
            · exact step_snd ih hq hw (one h')
            · exact no_snd ih hq hw h'
            · exact no_snd ih hq hw h'
            · exact step_snd ih hq hw (one h')
          | _ => exact no_snd ih hq hw h'

theorem drun_keeps {rec : Task → Option Res} {ops : Array Oper} {chk : Bool} : ∀ (l : List Oper) (j : Nat) (recs : List DRec) (S : FS) (r : FR), drun P rec ops chk l j recs S = some r →
    r.st.fn = S.fn ∧ r.st.rnd = S.rnd ∧ r.st.E.n = S.E.n ∧ r.st.E.g = S.E.g ∧ (∀ j S', r ≠ .jump j S')
  | [], j, recs, S, r, h => by
    simp only [drun, Option.some.injEq] at h; subst h
    exact ⟨rfl, rfl, rfl, rfl, fun _ _ hh => by cases hh⟩
  | o :: rest, j, recs, S, r, h => by
    have ih := drun_keeps (rec := rec) (ops := ops) (chk := chk) rest
    simp only [drun] at h
    split at h
    · have := ih _ _ _ _ h; simpa [Env.n_putO, Env.g_putO] using this
    · cases h
    · split at h
      · cases h
      split at h
      · split at h
        · cases h
        · split at h
          · simp only [Option.some.injEq] at h; subst h
            exact ⟨rfl, rfl, rfl, rfl, fun _ _ hh => by cases hh⟩
          · cases h
        · split at h
          · cases h
          · have := ih _ _ _ _ h; simpa [Env.n_putO, Env.g_putO] using this
      · split at h
        · cases h
        · have := ih _ _ _ _ h; simpa [Env.n_putO, Env.g_putO] using this
      · have := ih _ _ _ _ h; simpa [Env.n_putO, Env.g_putO] using this
      · cases h

/-- What the answers to a region's calls are known with. -/
theorem drun_kn {ask : Task → Option Res} (hq : ∀ t r, ask t = some r → Kn P t r) {ops : Array Oper} {chk : Bool} : ∀ (l : List Oper) (j : Nat) (recs : List DRec) (S : FS) (r : FR), drun P ask ops chk l j recs S = some r → ∃ m, drun P (run P m) ops chk l j recs S = some r
  | [], j, recs, S, r, h => ⟨0, h⟩
  | o :: rest, j, recs, S, r, h => by
    have ih := drun_kn hq (ops := ops) (chk := chk) rest
    simp only [drun] at h ⊢
    split at h
    · exact ih _ _ _ _ h
    · cases h
    · split at h
      · cases h
      rename_i U hU
      split at h
      · rename_i q hk hq0
        cases q with
        | val v H =>
          simp only at h ⊢
          split at h
          · cases h
          · rename_i hc
            obtain ⟨m, hm⟩ := ih _ _ _ _ h
            exact ⟨m, by rw [if_neg hc]; exact hm⟩
        | skip H =>
          simp only at h ⊢
          split at h
          · cases h
          · rename_i hc
            obtain ⟨m, hm⟩ := ih _ _ _ _ h
            exact ⟨m, by rw [if_neg hc]; exact hm⟩
        | call f args =>
          simp only at h ⊢
          cases hr : ask (.call f args (S.H.hide U)) with
          | none => rw [hr] at h; simp at h
          | some x =>
            rw [hr] at h
            obtain ⟨m1, hm1⟩ := hq _ _ hr
            cases x with
            | fr y => simp at h
            | out y H =>
              cases y with
              | ret v =>
                simp only at h
                split at h
                · cases h
                · rename_i hc
                  obtain ⟨m, hm⟩ := ih _ _ _ _ h
                  refine ⟨max m m1, ?_⟩
                  rw [run_le (Nat.le_max_right m m1) _ _ hm1]
                  simp only
                  rw [if_neg hc]
                  exact drun_mono (run_le (Nat.le_max_left m m1)) _ _ _ _ _ hm
              | panic v =>
                refine ⟨m1, ?_⟩
                rw [hm1]; exact h
        | round f args =>
          simp only at h ⊢
          cases hr : ask (.round f args (S.H.hide U)) with
          | none => rw [hr] at h; simp at h
          | some x =>
            rw [hr] at h
            obtain ⟨m1, hm1⟩ := hq _ _ hr
            cases x with
            | fr y => simp at h
            | out y H =>
              cases y with
              | ret v =>
                simp only at h
                split at h
                · cases h
                · rename_i hc
                  obtain ⟨m, hm⟩ := ih _ _ _ _ h
                  refine ⟨max m m1, ?_⟩
                  rw [run_le (Nat.le_max_right m m1) _ _ hm1]
                  simp only
                  rw [if_neg hc]
                  exact drun_mono (run_le (Nat.le_max_left m m1)) _ _ _ _ _ hm
              | panic v =>
                refine ⟨m1, ?_⟩
                rw [hm1]; exact h
        | _ => simp at h
      · rename_i v H' hk hq0
        split at h
        · cases h
        · rename_i hc
          obtain ⟨m, hm⟩ := ih _ _ _ _ h
          exact ⟨m, by rw [if_neg hc]; exact hm⟩
      · exact ih _ _ _ _ h
      · cases h
theorem exit_skip {it : LItem} {i : Nat} {k : List LItem} {S : FS} {r : Res} (hl : lexit i (it :: k) = lexit i k) (h : Kn P (.frame (.code (.exit i) :: k) S) r) : Kn P (.frame (.code (.exit i) :: it :: k) S) r := by
  obtain ⟨m, hm⟩ := h
  cases m with
  | zero => simp [run] at hm
  | succ m =>
    refine ⟨m + 1, ?_⟩
    simp only [run, runStep] at hm ⊢
    rw [hl]; exact hm
theorem goto_skip {it : LItem} {i : Nat} {k : List LItem} {S : FS} {r : Res} (hl : lgoto i (it :: k) = lgoto i k) (h : Kn P (.frame (.code (.goto i) :: k) S) r) : Kn P (.frame (.code (.goto i) :: it :: k) S) r := by
  obtain ⟨m, hm⟩ := h
  cases m with
  | zero => simp [run] at hm
  | succ m =>
    refine ⟨m + 1, ?_⟩
    simp only [run, runStep] at hm ⊢
    rw [hl]; exact hm
theorem ret_skip {it : LItem} {k : List LItem} {S : FS} {r : Res} (h : Kn P (.frame (.code .ret :: k) S) r) : Kn P (.frame (.code .ret :: it :: k) S) r := by
  obtain ⟨m, hm⟩ := h
  cases m with
  | zero => simp [run] at hm
  | succ m =>
    refine ⟨m + 1, ?_⟩
    simp only [run, runStep] at hm ⊢
    exact hm
/-- A jump passes an item that it does not look for. -/
theorem jump_skip {it : LItem} {j : Code} {k : List LItem} {S : FS} {r : Res} (hj : j = .ret ∨ (∃ i, j = .exit i) ∨ ∃ l, j = .goto l) (h1 : ∀ i, j = .exit i → ∀ k, lexit i (it :: k) = lexit i k) (h2 : ∀ l, j = .goto l → ∀ k, lgoto l (it :: k) = lgoto l k)
    (h : Kn P (.frame (.code j :: k) S) r) : Kn P (.frame (.code j :: it :: k) S) r := by
  rcases hj with rfl | ⟨i, rfl⟩ | ⟨l, rfl⟩
  · exact ret_skip h
  · exact exit_skip (h1 i rfl k) h
  · exact goto_skip (h2 l rfl k) h

theorem slow_snd {ops : Array Oper} {id : Nat} {cx : Cx} {t : Sl} {H : LH} {dp : DP} {x : XR} (hq : ∀ t r, cx.ask t = some r → Kn P t r) (h' : (slowD P n G ops (!(confl P ops).isEmpty) ops.toList).f cx t H dp = some x) :
    Leads P n G cx (.code (.region id ops true) :: ·) (fsOf n G cx.fn cx.rnd t H dp) x := by
  simp only [slowD] at h'
  have hk := fun r hr => drun_keeps (P := P) (rec := cx.ask) (ops := ops) (chk := !(confl P ops).isEmpty) ops.toList 0 [] ⟨cx.fn, mkE n G t, H, dp.D, cx.rnd, dp.pan⟩ r hr
  have hm : ∀ {r}, drun P cx.ask ops (!(confl P ops).isEmpty) ops.toList 0 [] ⟨cx.fn, mkE n G t, H, dp.D, cx.rnd, dp.pan⟩ = some r → ∃ m, drun P (run P m) ops (!(confl P ops).isEmpty) ops.toList 0 [] ⟨cx.fn, mkE n G t, H, dp.D, cx.rnd, dp.pan⟩ = some r := fun {r} hr => drun_kn hq _ _ _ _ _ hr
  have eS : ∀ S : FS, S.fn = cx.fn → S.rnd = cx.rnd → S.E.n = n → S.E.g = G → fsOf n G cx.fn cx.rnd (ofE S.E) S.H { D := S.D, pan := S.pan } = S := fun S e1 e2 e3 e4 => by
    obtain ⟨fn, E, HH, D, rnd, pan⟩ := S
    obtain ⟨en, eg, et⟩ := E
    simp only at e1 e2 e3 e4
    subst e1; subst e2; subst e3; subst e4
    rfl
  split at h'
  · rename_i S hr
    cases h'
    obtain ⟨k1, k2, k3, k4, _⟩ := hk _ hr
    obtain ⟨m, hm⟩ := hm hr
    intro k r hkn
    rw [eS S k1 k2 k3 k4] at hkn
    obtain ⟨m2, hm2⟩ := hkn
    refine ⟨max m m2 + 1, ?_⟩
    simp only [run, runStep, fsOf]
    rw [drun_mono (run_le (Nat.le_max_left m m2)) _ _ _ _ _ hm]
    exact run_le (Nat.le_max_right m m2) _ _ hm2
  · rename_i v S hr
    cases h'
    obtain ⟨k1, k2, k3, k4, _⟩ := hk _ hr
    obtain ⟨m, hm⟩ := hm hr
    intro k
    rw [eS S k1 k2 k3 k4]
    refine ⟨m + 1, ?_⟩
    simp only [run, runStep, fsOf]
    rw [hm]
  · cases h'

theorem addp {S : FS} : S = ⟨S.fn, S.E, S.H, S.D, S.rnd, S.pan⟩ := rfl
/-- One operation of a region that draws its order: what it may come to. -/
theorem stepD {m : Md} (hm : m ≠ .any) {d : Option Nat} {next : Bx Ex} {r : Option OR} {cx : Cx} {t : Sl} {H : LH} {dp : DP} {x : XR} (h : stepG m n d next r cx t H dp = some x) :
    (∃ v H', r = some (.val v H') ∧ next.f cx (putS n d v t) H' dp = some x) ∨ (m = .chg ∧ ((∃ H', r = some (.skip H') ∧ next.f cx (putS n d undefV t) H' dp = some x) ∨
      (∃ f args v H', r = some (.call f args) ∧ cx.ask (.call f args H) = some (.out (.ret v) H') ∧ next.f cx (putS n d v t) H' dp = some x) ∨
      ∃ l args v H', r = some (.round l args) ∧ cx.ask (.round l args H) = some (.out (.ret v) H') ∧ next.f cx (putS n d v t) H' dp = some x)) := by
  have nal : m = .chg ∨ m = .val := by cases m; exact absurd rfl hm; exact .inl rfl; exact .inr rfl
  cases r with
  | none => cases h
  | some r =>
    cases r with
    | val v H' => exact .inl ⟨v, H', rfl, (putB_k n d v t _).symm.trans h⟩
    | skip H' =>
      rcases nal with rfl | rfl
      · exact .inr ⟨rfl, .inl ⟨H', rfl, (putB_k n d undefV t _).symm.trans h⟩⟩
      · cases h
    | call f args =>
      simp only [stepG] at h
      split at h
      · rename_i v H' ha
        rcases nal with rfl | rfl
        · exact .inr ⟨rfl, .inr (.inl ⟨f, args, v, H', rfl, ha, (putB_k n d v t _).symm.trans h⟩)⟩
        · cases h
      · rcases nal with rfl | rfl <;> cases h
      · cases h
    | round f args =>
      simp only [stepG] at h
      split at h
      · rename_i v H' ha
        rcases nal with rfl | rfl
        · exact .inr ⟨rfl, .inr (.inr ⟨f, args, v, H', rfl, ha, (putB_k n d v t _).symm.trans h⟩)⟩
        · cases h
      · rcases nal with rfl | rfl <;> cases h
      · cases h
    | defer df =>
      simp only [stepG] at h
      split at h
      · rcases nal with rfl | rfl <;> cases h
      · cases h
    | recov =>
      simp only [stepG] at h
      split at h
      · rcases nal with rfl | rfl <;> cases h
      · rcases nal with rfl | rfl <;> cases h
      · cases h
    | panic v =>
      simp only [stepG] at h
      rcases nal with rfl | rfl <;> cases h
theorem hidU_okF {ops : Array Oper} {E : Env} {j : Nat} {o : Oper} (h : makesOk P ops = true) : hidU P ops E j o = some [] := by
  unfold hidU; rw [h, Bool.or_true, if_pos rfl]

theorem regD_snd (hT : TabOk P tb) {ops : Array Oper} {chk : Bool} (hmk : makesOk P ops = true) {cx : Cx} (hq : ∀ t r, cx.ask t = some r → Kn P t r) : ∀ (l : List Oper) (j : Nat) (t : Sl) (H : LH) (dp : DP) (x : XR), (regD P tb n G ops chk l j).f cx t H dp = some x →
    ∃ t' H' dp', x = .ret t' H' dp' ∧ dp'.D = dp.D ∧ dp'.pan = dp.pan ∧ ∃ m, drun P (run P m) ops chk l j dp.recs ⟨cx.fn, mkE n G t, H, dp.D, cx.rnd, dp.pan⟩ = some (.ret ⟨cx.fn, mkE n G t', H', dp.D, cx.rnd, dp.pan⟩)
  | [], j, t, H, dp, x, h => by
    cases h
    exact ⟨t, H, dp, rfl, rfl, rfl, 0, rfl⟩
  | o :: rest, j, t, H, dp, x, h => by
    have ih := regD_snd hT (chk := chk) hmk hq rest (j + 1)
    -- the operation is wanted
    have yes : wantedL ops (mkE n G t) o = some true → (opD P tb n G ops chk j o (regD P tb n G ops chk rest (j + 1))).f cx t H dp = some x →
        ∃ t' H' dp', x = .ret t' H' dp' ∧ dp'.D = dp.D ∧ dp'.pan = dp.pan ∧ ∃ m, drun P (run P m) ops chk (o :: rest) j dp.recs ⟨cx.fn, mkE n G t, H, dp.D, cx.rnd, dp.pan⟩ = some (.ret ⟨cx.fn, mkE n G t', H', dp.D, cx.rnd, dp.pan⟩) := fun hw h => by
      -- from what 'lop' says, and how the rest goes on
      have fin : ∀ {v : LV} {H1 : LH} {recs1 : List DRec} {dp1 : DP} (step : ∀ m r, drun P (run P m) ops chk rest (j + 1) recs1 ⟨cx.fn, mkE n G (putS n o.dst v t), H1, dp.D, cx.rnd, dp.pan⟩ = some r → ∃ m', drun P (run P m') ops chk (o :: rest) j dp.recs ⟨cx.fn, mkE n G t, H, dp.D, cx.rnd, dp.pan⟩ = some r),
          dp1.D = dp.D → dp1.pan = dp.pan → dp1.recs = recs1 → (regD P tb n G ops chk rest (j + 1)).f cx (putS n o.dst v t) H1 dp1 = some x →
          ∃ t' H' dp', x = .ret t' H' dp' ∧ dp'.D = dp.D ∧ dp'.pan = dp.pan ∧ ∃ m, drun P (run P m) ops chk (o :: rest) j dp.recs ⟨cx.fn, mkE n G t, H, dp.D, cx.rnd, dp.pan⟩ = some (.ret ⟨cx.fn, mkE n G t', H', dp.D, cx.rnd, dp.pan⟩) := by
        intro v H1 recs1 dp1 step e1 e2 e3 hx
        obtain ⟨t', H', dp', rfl, d1, d2, m, hm⟩ := ih _ _ _ _ hx
        rw [e1, e2, e3] at hm
        obtain ⟨m', hm'⟩ := step m _ hm
        exact ⟨t', H', dp', rfl, d1.trans e1, d2.trans e2, m', hm'⟩
      unfold opD at h
      cases hk : okind P o with
      | «mut» =>
        rw [hk] at h
        simp only at h
        cases chk with
        | false =>
          simp only [cond_false] at h
          rw [opX_eq hT, lopB_eq] at h
          rcases stepD (by simp) h with ⟨v, H1, hl, hx⟩ | ⟨_, ⟨H1, hl, hx⟩ | ⟨f, args, v, H1, hl, ha, hx⟩ | ⟨f, args, v, H1, hl, ha, hx⟩⟩
          · refine fin (recs1 := dp.recs) (fun m r hr => ⟨m, ?_⟩) rfl rfl rfl hx
            rw [putB_eq] at hr
            simp only [drun, hw, hidU_okF hmk, LH.hide, LH.back, hk, hl]
            simpa using hr
          · refine fin (recs1 := dp.recs) (fun m r hr => ⟨m, ?_⟩) rfl rfl rfl hx
            rw [putB_eq] at hr
            simp only [drun, hw, hidU_okF hmk, LH.hide, LH.back, hk, hl]
            simpa using hr
          · obtain ⟨m1, hm1⟩ := hq _ _ ha
            refine fin (recs1 := dp.recs) (fun m r hr => ⟨max m m1, ?_⟩) rfl rfl rfl hx
            rw [putB_eq] at hr
            have hr' := drun_mono (run_le (P := P) (Nat.le_max_left m m1)) _ _ _ _ _ hr
            simp only [drun, hw, hidU_okF hmk, LH.hide, LH.back, hk, hl, run_le (Nat.le_max_right m m1) _ _ hm1]
            simpa using hr'
          · obtain ⟨m1, hm1⟩ := hq _ _ ha
            refine fin (recs1 := dp.recs) (fun m r hr => ⟨max m m1, ?_⟩) rfl rfl rfl hx
            rw [putB_eq] at hr
            have hr' := drun_mono (run_le (P := P) (Nat.le_max_left m m1)) _ _ _ _ _ hr
            simp only [drun, hw, hidU_okF hmk, LH.hide, LH.back, hk, hl, run_le (Nat.le_max_right m m1) _ _ hm1]
            simpa using hr'
        | true =>
          simp only [cond_true] at h
          have h1 : (opX P tb .chg n G o.op o.dst (postM P ops j (regD P tb n G ops true rest (j + 1)))).f cx t H { dp with bt := some t, bH := H } = some x := h
          rw [opX_eq hT, lopB_eq] at h1
          have post : ∀ {v H1}, (postM P ops j (regD P tb n G ops true rest (j + 1))).f cx (putS n o.dst v t) H1 { dp with bt := some t, bH := H } = some x → chkM P ops j H1 dp.recs = true ∧ (regD P tb n G ops true rest (j + 1)).f cx (putS n o.dst v t) H1 { dp with bt := t, bH := H, recs := .mut j H :: dp.recs } = some x := fun {v H1} hx => by
            simp only [postM] at hx
            cases hc : chkM P ops j H1 dp.recs with
            | false => rw [hc] at hx; cases hx
            | true => rw [hc] at hx; exact ⟨rfl, hx⟩
          rcases stepD (by simp) h1 with ⟨v, H1, hl, hx⟩ | ⟨_, ⟨H1, hl, hx⟩ | ⟨f, args, v, H1, hl, ha, hx⟩ | ⟨f, args, v, H1, hl, ha, hx⟩⟩
          · obtain ⟨hc, hx⟩ := post hx
            unfold chkM at hc
            rw [List.all_eq_true] at hc
            refine fin (recs1 := .mut j H :: dp.recs) (dp1 := { dp with bt := t, bH := H, recs := .mut j H :: dp.recs }) (fun m r hr => ⟨m, ?_⟩) rfl rfl rfl hx
            rw [putB_eq] at hr
            simp only [drun, hw, hidU_okF hmk, LH.hide, LH.back, hk, hl]
            simp only [Bool.true_and]
            rw [if_neg (by simp only [Bool.not_eq_true', Bool.not_eq_false]; rw [List.all_eq_true]; exact fun y hy => by have := hc y hy; cases y <;> exact this)]
            exact hr
          · obtain ⟨hc, hx⟩ := post hx
            unfold chkM at hc
            rw [List.all_eq_true] at hc
            refine fin (recs1 := .mut j H :: dp.recs) (dp1 := { dp with bt := t, bH := H, recs := .mut j H :: dp.recs }) (fun m r hr => ⟨m, ?_⟩) rfl rfl rfl hx
            rw [putB_eq] at hr
            simp only [drun, hw, hidU_okF hmk, LH.hide, LH.back, hk, hl]
            simp only [Bool.true_and]
            rw [if_neg (by simp only [Bool.not_eq_true', Bool.not_eq_false]; rw [List.all_eq_true]; exact fun y hy => by have := hc y hy; cases y <;> exact this)]
            exact hr
          · obtain ⟨hc, hx⟩ := post hx
            unfold chkM at hc
            rw [List.all_eq_true] at hc
            obtain ⟨m1, hm1⟩ := hq _ _ ha
            refine fin (recs1 := .mut j H :: dp.recs) (dp1 := { dp with bt := t, bH := H, recs := .mut j H :: dp.recs }) (fun m r hr => ⟨max m m1, ?_⟩) rfl rfl rfl hx
            rw [putB_eq] at hr
            have hr' := drun_mono (run_le (P := P) (Nat.le_max_left m m1)) _ _ _ _ _ hr
            simp only [drun, hw, hidU_okF hmk, LH.hide, LH.back, hk, hl, run_le (Nat.le_max_right m m1) _ _ hm1]
            simp only [Bool.true_and]
            rw [if_neg (by simp only [Bool.not_eq_true', Bool.not_eq_false]; rw [List.all_eq_true]; exact fun y hy => by have := hc y hy; cases y <;> exact this)]
            exact hr'
          · obtain ⟨hc, hx⟩ := post hx
            unfold chkM at hc
            rw [List.all_eq_true] at hc
            obtain ⟨m1, hm1⟩ := hq _ _ ha
            refine fin (recs1 := .mut j H :: dp.recs) (dp1 := { dp with bt := t, bH := H, recs := .mut j H :: dp.recs }) (fun m r hr => ⟨max m m1, ?_⟩) rfl rfl rfl hx
            rw [putB_eq] at hr
            have hr' := drun_mono (run_le (P := P) (Nat.le_max_left m m1)) _ _ _ _ _ hr
            simp only [drun, hw, hidU_okF hmk, LH.hide, LH.back, hk, hl, run_le (Nat.le_max_right m m1) _ _ hm1]
            simp only [Bool.true_and]
            rw [if_neg (by simp only [Bool.not_eq_true', Bool.not_eq_false]; rw [List.all_eq_true]; exact fun y hy => by have := hc y hy; cases y <;> exact this)]
            exact hr'
      | read =>
        rw [hk] at h
        simp only at h
        cases chk with
        | false =>
          simp only [cond_false] at h
          rw [opX_eq hT, lopB_eq] at h
          rcases stepD (by simp) h with ⟨v, H1, hl, hx⟩ | ⟨hm0, _⟩
          · refine fin (recs1 := dp.recs) (fun m r hr => ⟨m, ?_⟩) rfl rfl rfl hx
            rw [putB_eq] at hr
            simp only [drun, hw, hidU_okF hmk, LH.hide, LH.back, hk, hl]
            simpa using hr
          · cases hm0
        | true =>
          simp only [cond_true] at h
          cases hd : o.dst with
          | none => rw [hd] at h; cases h
          | some k =>
            rw [hd] at h
            simp only at h
            cases hkn : Nat.blt k n with
            | false => rw [hkn] at h; cases h
            | true =>
              rw [hkn] at h
              simp only [cond_true] at h
              have h1 : (opX P tb .val n G o.op (some k) (postR P n G ops j o k (regD P tb n G ops true rest (j + 1)))).f cx t H { dp with bt := some t, bH := H } = some x := h
              rw [opX_eq hT, lopB_eq] at h1
              rcases stepD (by simp) h1 with ⟨v, H1, hl, hx⟩ | ⟨hm0, _⟩
              · simp only [postR] at hx
                have hv : (rdB k).f (putS n (some k) v t) = some v := by
                  rw [rdB_eq]
                  have e := putB_eq n G (some k) v t
                  have e2 : (mkE n G (putS n (some k) v t)).get k = some v := by
                    rw [e]
                    simp only [Env.putO, Env.get_put]
                    have := blt_iff.1 hkn
                    simp [mkE, this]
                  exact e2
                rw [hv, thenF_some] at hx
                rw [show mkB n G (some t) = mkE n G t from rfl] at hx
                cases hc : chkR P ops j (mkE n G t) H o v dp.recs with
                | false => rw [hc] at hx; cases hx
                | true =>
                  rw [hc] at hx
                  simp only [cond_true] at hx
                  unfold chkR at hc
                  rw [List.all_eq_true] at hc
                  refine fin (v := v) (recs1 := .read j (mkE n G t) H.next o v :: dp.recs) (dp1 := { dp with bt := t, bH := H, recs := .read j (mkE n G t) H.next o v :: dp.recs }) (fun m r hr => ⟨m, ?_⟩) rfl rfl rfl (by rw [hd]; exact hx)
                  rw [putB_eq] at hr
                  simp only [drun, hw, hidU_okF hmk, LH.hide, LH.back, hk, hl]
                  simp only [Bool.true_and]
                  rw [if_neg (by simp only [Bool.not_eq_true', Bool.not_eq_false]; rw [List.all_eq_true]; exact fun y hy => by have := hc y hy; cases y <;> exact this)]
                  exact hr
              · cases hm0
      | free =>
        rw [hk] at h
        simp only at h
        rw [opX_eq hT, lopB_eq] at h
        rcases stepD (by simp) h with ⟨v, H1, hl, hx⟩ | ⟨hm0, _⟩
        · refine fin (recs1 := dp.recs) (fun m r hr => ⟨m, ?_⟩) rfl rfl rfl hx
          rw [putB_eq] at hr
          simp only [drun, hw, hidU_okF hmk, LH.hide, LH.back, hk, hl]
          simpa using hr
        · cases hm0
      | make =>
        rw [hk] at h
        simp only at h
        rw [opX_eq hT, lopB_eq] at h
        rcases stepD (by simp) h with ⟨v, H1, hl, hx⟩ | ⟨hm0, _⟩
        · refine fin (recs1 := dp.recs) (fun m r hr => ⟨m, ?_⟩) rfl rfl rfl hx
          rw [putB_eq] at hr
          simp only [drun, hw, hidU_okF hmk, LH.hide, LH.back, hk, hl]
          simpa using hr
        · cases hm0
    have no : wantedL ops (mkE n G t) o = some false → ((putB n o.dst).f undefV t fun t => (regD P tb n G ops chk rest (j + 1)).f cx t H dp) = some x →
        ∃ t' H' dp', x = .ret t' H' dp' ∧ dp'.D = dp.D ∧ dp'.pan = dp.pan ∧ ∃ m, drun P (run P m) ops chk (o :: rest) j dp.recs ⟨cx.fn, mkE n G t, H, dp.D, cx.rnd, dp.pan⟩ = some (.ret ⟨cx.fn, mkE n G t', H', dp.D, cx.rnd, dp.pan⟩) := fun hw h => by
      obtain ⟨t', H', dp', rfl, d1, d2, m, hm⟩ := ih _ _ _ _ ((putB_k n o.dst undefV t _).symm.trans h)
      refine ⟨t', H', dp', rfl, d1, d2, m, ?_⟩
      rw [putB_eq] at hm
      simp only [drun, hw]
      exact hm
    have h' : (guardX ops o n (regD P tb n G ops chk rest (j + 1)) (opD P tb n G ops chk j o (regD P tb n G ops chk rest (j + 1)))).f cx t H dp = some x := h
    unfold guardX at h'
    cases hg : o.guard with
    | none =>
      rw [hg] at h'
      exact yes (by simp only [wantedL, hg]) h'
    | some p =>
      obtain ⟨q, want⟩ := p
      rw [hg] at h'
      simp only at h'
      cases hd : (ops[q]?).bind (·.dst) with
      | none => rw [hd] at h'; cases h'
      | some s =>
        rw [hd] at h'
        simp only at h'
        rw [rdB_eq] at h'
        cases hs : t.t.get s with
        | none => rw [hs] at h'; cases h'
        | some v =>
          rw [hs] at h'
          have hw := wanted_at (n := n) (G := G) hg hd hs
          simp only [thenF_some] at h'
          cases v with
          | bool b =>
            cases b <;> cases want
            · exact yes hw h'
            · exact no hw h'
            · exact no hw h'
            · exact yes hw h'
          | _ => exact no hw h'

theorem exX_snd (hT : TabOk P tb) : ∀ (d : Nat) (c : Code), Snd P n G (.code c) (exX P tb n G d c).f
  | 0, c => fun cx t H dp x hq h => by cases h
  | d + 1, c => fun cx t H dp x hq h => by
    have ih := exX_snd hT d
    cases c with
    | skip => cases h; exact fun k r hk => hk.of fun rec hr => hr
    | label l => cases h; exact fun k r hk => hk.of fun rec hr => hr
    | ret => cases h; exact ⟨.inl rfl, fun k r hk => hk⟩
    | exit i => cases h; exact ⟨.inr (.inl ⟨i, rfl⟩), fun k r hk => hk⟩
    | goto l => cases h; exact ⟨.inr (.inr ⟨l, rfl⟩), fun k r hk => hk⟩
    | seq a b =>
      have h' : seqX (exX P tb n G d a) (exX P tb n G d b) cx t H dp = some x := h
      unfold seqX at h'
      have en : ∀ k r, Kn P (.frame (.code a :: .code b :: k) (fsOf n G cx.fn cx.rnd t H dp)) r → Kn P (.frame (.code (.seq a b) :: k) (fsOf n G cx.fn cx.rnd t H dp)) r := fun k r hk => hk.of fun rec hr => hr
      split at h'
      · rename_i t1 H1 dp1 h1
        have h2 : Leads P n G cx _ _ (.ret t1 H1 dp1) := ih a cx t H dp _ hq h1
        exact (ih b cx t1 H1 dp1 x hq h').pre fun k r hk => en _ _ (h2 _ _ hk)
      · rename_i r0 h1
        have h2 := ih a cx t H dp x hq h'
        cases x with
        | ret t' H' dp' => exact absurd h' (h1 _ _ _)
        | panic v t' H' dp' => exact fun k => en _ _ (h2 _)
        | jump j t' H' dp' => exact ⟨h2.1, fun k r hk => en _ _ (h2.2 _ _ (jump_skip h2.1 (fun _ _ _ => rfl) (fun _ _ _ => rfl) hk))⟩
    | cond c a b =>
      have h' : condX G c (exX P tb n G d a) (exX P tb n G d b) cx t H dp = some x := h
      unfold condX at h'
      rw [evB_eq n] at h'
      cases hc : (mkE n G t).ev c with
      | none => rw [hc] at h'; cases h'
      | some q =>
        rw [hc, thenF_some] at h'
        cases q with
        | bool b' =>
          cases b' with
          | true =>
            exact (ih a cx t H dp x hq h').pre fun k r hk => hk.of fun rec hr => by
              simp only [runStep, fsOf] at hr ⊢
              rw [hc]; exact hr
          | false =>
            exact (ih b cx t H dp x hq h').pre fun k r hk => hk.of fun rec hr => by
              simp only [runStep, fsOf] at hr ⊢
              rw [hc]; exact hr
        | _ => cases h'
    | block id a =>
      have h' : blockX id (exX P tb n G d a) cx t H dp = some x := h
      unfold blockX at h'
      have en : ∀ k r, Kn P (.frame (.code a :: .inBlock id :: k) (fsOf n G cx.fn cx.rnd t H dp)) r → Kn P (.frame (.code (.block id a) :: k) (fsOf n G cx.fn cx.rnd t H dp)) r := fun k r hk => hk.of fun rec hr => hr
      split at h'
      · rename_i i t1 H1 dp1 h1
        have h2 : Leads P n G cx _ _ (.jump (.exit i) t1 H1 dp1) := ih a cx t H dp _ hq h1
        cases hb : Nat.beq i id with
        | true =>
          rw [hb] at h'
          cases h'
          refine fun k r hk => en _ _ (h2.2 _ _ (hk.of fun rec hr => ?_))
          have hi : (id == i) = true := by have := Nat.eq_of_beq_eq_true hb; subst this; simp
          simp only [runStep, lexit, hi, if_true]
          exact hr
        | false =>
          rw [hb] at h'
          cases h'
          have hi : ∀ k, lexit i (.inBlock id :: k) = lexit i k := fun k => by
            have := Nat.ne_of_beq_eq_false hb
            simp only [lexit]
            rw [if_neg (by simp; exact fun e => this e.symm)]
          exact ⟨h2.1, fun k r hk => en _ _ (h2.2 _ _ (exit_skip (hi k) hk))⟩
      · rename_i r0 h1
        have h2 := ih a cx t H dp x hq h'
        cases x with
        | ret t' H' dp' => exact fun k r hk => en _ _ (h2 _ _ (hk.of fun rec hr => hr))
        | panic v t' H' dp' => exact fun k => en _ _ (h2 _)
        | jump j t' H' dp' => exact ⟨h2.1, fun k r hk => en _ _ (h2.2 _ _ (jump_skip h2.1 (fun i e _ => by subst e; exact absurd h' (h1 _ _ _ _)) (fun _ _ _ => rfl) hk))⟩
    | loop a =>
      have en : ∀ k r, Kn P (.frame (.inLoop a :: k) (fsOf n G cx.fn cx.rnd t H dp)) r → Kn P (.frame (.code (.loop a) :: k) (fsOf n G cx.fn cx.rnd t H dp)) r := fun k r hk => by
        obtain ⟨m, hm⟩ := hk
        cases m with
        | zero => simp [run] at hm
        | succ m => exact ⟨m + 1, hm⟩
      have key : ∀ (m : Nat) (t : Sl) (H : LH) (dp : DP) (x : XR), loopX (exX P tb n G d a) m cx t H dp = some x → Leads P n G cx (.inLoop a :: ·) (fsOf n G cx.fn cx.rnd t H dp) x := by
        intro m
        induction m with
        | zero => intro t H dp x hx; cases hx
        | succ m ihm =>
          intro t H dp x hx
          have hx' : (match (exX P tb n G d a).f cx t H dp with | some (.ret t H dp) => loopX (exX P tb n G d a) m cx t H dp | r => r) = some x := hx
          have enl : ∀ k r, Kn P (.frame (.code a :: .inLoop a :: k) (fsOf n G cx.fn cx.rnd t H dp)) r → Kn P (.frame (.inLoop a :: k) (fsOf n G cx.fn cx.rnd t H dp)) r := fun k r hk => hk.of fun rec hr => hr
          split at hx'
          · rename_i t1 H1 dp1 h1
            have h2 : Leads P n G cx _ _ (.ret t1 H1 dp1) := ih a cx t H dp _ hq h1
            exact (ihm t1 H1 dp1 x hx').pre fun k r hk => enl _ _ (h2 _ _ hk)
          · rename_i r0 h1
            have h2 := ih a cx t H dp x hq hx'
            cases x with
            | ret t' H' dp' => exact absurd hx' (h1 _ _ _)
            | panic v t' H' dp' => exact fun k => enl _ _ (h2 _)
            | jump j t' H' dp' => exact ⟨h2.1, fun k r hk => enl _ _ (h2.2 _ _ (jump_skip h2.1 (fun _ _ _ => rfl) (fun _ _ _ => rfl) hk))⟩
      exact (key maxRounds t H dp x h).pre en
    | scope a =>
      have en : ∀ k r, Kn P (.frame (.code a :: .inScope a :: k) (fsOf n G cx.fn cx.rnd t H dp)) r → Kn P (.frame (.code (.scope a) :: k) (fsOf n G cx.fn cx.rnd t H dp)) r := fun k r hk => hk.of fun rec hr => hr
      have key : ∀ (m : Nat) (c : Code) (t : Sl) (H : LH) (dp : DP) (x : XR), scopeX a (exX P tb n G d) m c cx t H dp = some x → Leads P n G cx (fun k => .code c :: .inScope a :: k) (fsOf n G cx.fn cx.rnd t H dp) x := by
        intro m
        induction m with
        | zero => intro c t H dp x hx; cases hx
        | succ m ihm =>
          intro c t H dp x hx
          have hx' : (match (exX P tb n G d c).f cx t H dp with | some (.jump (.goto l) t H dp) => (match findLabel a l with | some rest => scopeX a (exX P tb n G d) m rest cx t H dp | none => some (.jump (.goto l) t H dp)) | r => r) = some x := hx
          split at hx'
          · rename_i l t1 H1 dp1 h1
            have h2 : Leads P n G cx _ _ (.jump (.goto l) t1 H1 dp1) := ih c cx t H dp _ hq h1
            split at hx'
            · rename_i rest hf
              exact (ihm rest t1 H1 dp1 x hx').pre fun k r hk => h2.2 _ _ (hk.of fun rec hr => by
                simp only [runStep, lgoto, hf]; exact hr)
            · rename_i hf
              cases hx'
              exact ⟨.inr (.inr ⟨l, rfl⟩), fun k r hk => h2.2 _ _ (goto_skip (by simp only [lgoto, hf]) hk)⟩
          · rename_i r0 h1
            have h2 := ih c cx t H dp x hq hx'
            cases x with
            | ret t' H' dp' => exact fun k r hk => h2 _ _ (hk.of fun rec hr => hr)
            | panic v t' H' dp' => exact fun k => h2 _
            | jump j t' H' dp' => exact ⟨h2.1, fun k r hk => h2.2 _ _ (jump_skip h2.1 (fun _ _ _ => rfl) (fun l e _ => by subst e; exact absurd hx' (h1 _ _ _ _)) hk)⟩
      exact (key maxRounds a t H dp x h).pre en
    | region id ops dr =>
      cases dr with
      | false =>
        exact (regX_snd (P := P) (n := n) (G := G) hT (ops := ops) ops.toList cx t H dp x hq h).pre fun k r hk => hk.of fun rec hr => hr
      | true =>
        have h0 : (drawX P tb n G ops (!(confl P ops).isEmpty) ops.toList).f cx t H dp = some x := h
        have slow : (slowD P n G ops (!(confl P ops).isEmpty) ops.toList).f cx t H dp = some x → Leads P n G cx (.code (.region id ops true) :: ·) (fsOf n G cx.fn cx.rnd t H dp) x := fun h' => slow_snd hq h'
        unfold drawX at h0
        cases hmk : makesOk P ops with
        | false => rw [hmk] at h0; exact slow h0
        | true =>
          rw [hmk] at h0
          simp only [cond_true, drawF] at h0
          split at h0
          · rename_i x' hx'
            cases h0
            obtain ⟨t', H', dp', rfl, e1, e2, m, hm⟩ := regD_snd hT hmk hq _ _ _ _ _ _ hx'
            intro k r hkn
            have hkn' : Kn P (.frame k ⟨cx.fn, mkE n G t', H', dp.D, cx.rnd, dp.pan⟩) r := by
              have : fsOf n G cx.fn cx.rnd t' H' dp' = ⟨cx.fn, mkE n G t', H', dp.D, cx.rnd, dp.pan⟩ := by unfold fsOf; rw [e1, e2]
              rw [← this]; exact hkn
            obtain ⟨m2, hm2⟩ := hkn'
            refine ⟨max m m2 + 1, ?_⟩
            simp only [run, runStep, fsOf]
            rw [drun_mono (run_le (Nat.le_max_left m m2)) _ _ _ _ _ hm]
            exact run_le (Nat.le_max_right m m2) _ _ hm2
          · exact slow h0
    | rangeFunc f ps a b =>
      have h' : rangeX P n G f ps a b cx t H dp = some x := h
      simp only [rangeX, evB_eq n] at h'
      cases he : (mkE n G t).ev f with
      | none => rw [he] at h'; cases h'
      | some g =>
        rw [he] at h'
        simp only at h'
        split at h'
        · cases h'
        · rename_i hst
          split at h'
          · rename_i f0 args hcv
            split at h'
            · rename_i v0 H1 hr
              have hkn := hq _ _ hr
              split at h'
              · rename_i st pend fn' env ps' a' b' dn hget
                split at h'
                · cases h'
                · rename_i hb
                  have en : ∀ k r, Kn P (.frame (.endRange (rangeOpen (fsOf n G cx.fn cx.rnd t H dp)).1.next :: k) { (fsOf n G cx.fn cx.rnd t H dp) with H := H1, D := (rangeOpen (fsOf n G cx.fn cx.rnd t H dp)).2.1 }) r → Kn P (.frame (.code (.rangeFunc f ps a b) :: k) (fsOf n G cx.fn cx.rnd t H dp)) r := fun k r hk => hkn.of2 hk fun rec h1 h2 => by
                    simp only [runStep]
                    rw [show (fsOf n G cx.fn cx.rnd t H dp).E.ev f = some g from he]
                    simp only
                    rw [if_neg (show ¬ ¬ rangeStands (fsOf n G cx.fn cx.rnd t H dp) = true from hst)]
                    rw [show callValue P (rangeLoop (fsOf n G cx.fn cx.rnd t H dp) ps a b) g [.yield (rangeOpen (fsOf n G cx.fn cx.rnd t H dp)).1.next] = some (.call f0 args) from hcv]
                    simp only
                    rw [show rec (.call f0 args (rangeLoop (fsOf n G cx.fn cx.rnd t H dp) ps a b)) = _ from h1]
                    exact h2
                  split at h'
                  · rename_i c
                    split at h'
                    · cases h'
                    rename_i hj
                    cases h'
                    refine ⟨isJ_spec (by simpa using hj), fun k r hk => en _ _ (hk.of fun rec h1 => ?_)⟩
                    simp only [runStep]
                    rw [hget]
                    simp only
                    rw [if_neg hb]
                    exact h1
                  · cases h'
                    refine fun k r hk => en _ _ (hk.of fun rec h1 => ?_)
                    simp only [runStep]
                    rw [hget]
                    simp only
                    rw [if_neg hb]
                    exact h1
              · cases h'
            · rename_i v0 H1 hr
              have hkn := hq _ _ hr
              cases h'
              refine fun k => hkn.of fun rec h1 => ?_
              simp only [runStep]
              rw [show (fsOf n G cx.fn cx.rnd t H dp).E.ev f = some g from he]
              simp only
              rw [if_neg (show ¬ ¬ rangeStands (fsOf n G cx.fn cx.rnd t H dp) = true from hst)]
              rw [show callValue P (rangeLoop (fsOf n G cx.fn cx.rnd t H dp) ps a b) g [.yield (rangeOpen (fsOf n G cx.fn cx.rnd t H dp)).1.next] = some (.call f0 args) from hcv]
              simp only
              rw [show rec (.call f0 args (rangeLoop (fsOf n G cx.fn cx.rnd t H dp) ps a b)) = _ from h1]
              rfl
            · cases h'
          · cases h'
    | refuse w => cases h
end
end Go.Lv
