/- Lv: the evaluator in a form that the kernel runs fast: calls; and a law's call by it. -/
import Derived.Test.YtdbpidkbpiidiaaGreatDoorLvFastC
import Derived.Test.YtdbpidkbpiidiaaGreatDoorLvTop
namespace Go.Lv
open Go Go.RowKit
set_option linter.unusedVariables false
set_option linter.unusedSimpArgs false

/-- How deep a text may be nested. -/
def maxDeep : Nat := 1000
/-- A function's text. -/
noncomputable def fnX (P : Program) (tb : Tab) (f : Nat) : Bx (Option (Nat × Bx Ex)) :=
  match tb.func f with
  | some fn => match fn.body with
    | some c => ⟨some (fn.ntmps, exX P tb fn.ntmps P.globals.size maxDeep c)⟩
    | none => ⟨none⟩
  | none => ⟨none⟩
noncomputable def resX (P : Program) (tb : Tab) (f : Nat) : Bx (Option (List ResultVar)) :=
  match tb.func f with
  | some fn => ⟨some fn.results.toList⟩
  | none => ⟨none⟩
noncomputable def emptyS : Sl := ⟨.leaf, fun _ => none, fun _ => none, fun k => by cases cls k <;> rfl⟩
noncomputable def startT {β : Type} (nt : Nat) (vs : List LV) : Nat → Sl → (Sl → β) → β := List.rec (fun _ t k => k t) (fun v _ ih i t k => (putB nt (some i)).f v t (fun t => ih (i + 1) t k)) vs
noncomputable def startS (nt : Nat) (vs : List LV) : Sl := startT nt vs 0 emptyS (fun s => s)
theorem startT_k {β : Type} (nt : Nat) : ∀ (vs : List LV) (i : Nat) (t : Sl) (k : Sl → β), startT nt vs i t k = k (startT nt vs i t (fun s => s))
  | [], i, t, k => rfl
  | v :: vs, i, t, k => by
    show (putB nt (some i)).f v t (fun t => startT nt vs (i + 1) t k) = k ((putB nt (some i)).f v t (fun t => startT nt vs (i + 1) t (fun s => s)))
    rw [putB_k, putB_k, startT_k nt vs]
theorem startT_eq (nt G : Nat) : ∀ (vs : List LV) (i : Nat) (t : Sl), mkE nt G (startT nt vs i t (fun s => s)) = Env.putAll (mkE nt G t) i vs
  | [], i, t => rfl
  | v :: vs, i, t => by
    show mkE nt G ((putB nt (some i)).f v t (fun t => startT nt vs (i + 1) t (fun s => s))) = _
    rw [putB_k, startT_eq nt G vs, putB_eq]; rfl

/-- A function's results, from its slots. -/
def rvOps (rs : List ResultVar) : List Operand := rs.map fun r => match r with | .tmp t => .tmp t | .cell a _ => .tmp a
theorem results_few {P : Program} {n G : Nat} {s : Sl} {H : LH} : ∀ (rs : List ResultVar) (xs : List Operand), (∀ x ∈ rvOps rs, x ∈ xs) → results P H (fewE n G s xs) rs = results P H (mkE n G s) rs
  | [], xs, h => rfl
  | r :: rs, xs, h => by
    have ih := results_few (P := P) (n := n) (G := G) (s := s) (H := H) rs xs (fun x hx => h x (List.mem_cons_of_mem _ hx))
    simp only [results, ih]
    cases r with
    | tmp k =>
      have := fewE_ev n G s xs (.tmp k) (h _ List.mem_cons_self)
      simp only [Env.ev] at this
      simp only [this]
    | cell a t =>
      have := fewE_ev n G s xs (.tmp a) (h _ List.mem_cons_self)
      simp only [Env.ev] at this
      simp only [this]

noncomputable def retC (P : Program) (tb : Tab) (ih : Task → Option Res) (nt f : Nat) (t : Sl) (H : LH) (dp : DP) : Option Res :=
  match dp.D with
  | [] =>
    match (resX P tb f).f with
    | some rs => (results P H (fewE nt P.globals.size t (rvOps rs)) rs).map fun vs => .out (.ret (oneOr vs)) H
    | none => none
  | _ => ih (.defs (fsOf nt P.globals.size f none t H dp) none)
noncomputable def endC (P : Program) (tb : Tab) (ih : Task → Option Res) (nt f : Nat) (x : Option XR) : Option Res :=
  match x with
  | some (.ret t H dp) => retC P tb ih nt f t H dp
  | some (.jump .ret t H dp) => retC P tb ih nt f t H dp
  | some (.panic v t H dp) => ih (.defs (fsOf nt P.globals.size f none t H dp) (some (v, false)))
  | _ => none
noncomputable def stepF (P : Program) (tb : Tab) (ih : Task → Option Res) (t : Task) : Option Res :=
    match t with
    | .frame _ _ => none
    | .call f args H =>
      match (fnX P tb f).f with
      | some (nt, ex) =>
        bif Nat.ble args.length nt then
          endC P tb ih nt f (startT nt args 0 emptyS fun t0 => ex.f ⟨ih, f, none⟩ t0 H { D := [], pan := none })
        else none
      | none => none
    | .round l args H =>
      match H.get l with
      | some (.loop _ _ fn env ps a b _) =>
        if ps.length ≠ args.length then none else
        match (exX P tb env.n env.g maxDeep a).f ⟨ih, fn, some l⟩ (ofE ((ps.zip args).foldl (fun E (p : Nat × LV) => E.put p.1 p.2) env)) H { D := [], pan := none } with
        | some (.ret t H dp) =>
          match H.get l with
          | some (.loop .ready pend fn' env' ps a' b' dn) =>
            match (match (exX P tb env.n env.g maxDeep b).f ⟨ih, fn, some l⟩ t (H.put l (.loop .busy pend fn' env' ps a' b' dn)) dp with
              | some (.ret t H dp) => some (none, H, dp)
              | some (.jump .ret t H dp) => some (some .ret, H, dp)
              | some (.jump (.exit i) t H dp) => some (some (.exit i), H, dp)
              | _ => none : Option (Option Code × LH × DP)) with
            | some (j, H, dp) =>
              match dp.D, H.get l with
              | [], some (.loop _ _ fn env ps a b dn) =>
                some (.out (.ret (.bool j.isNone)) (H.put l (.loop (if j.isNone then .ready else .done) j fn env ps a b dn)))
              | _, _ => none
            | none => none
          | _ => none
        | _ => none
      | _ => none
    | .defs S p =>
      match S.D with
      | [] =>
        match p with
        | some (v, false) => some (.out (.panic v) S.H)
        | some (_, true) => none
        | none =>
          match (resX P tb S.fn).f with
          | some rs => (results P S.H S.E rs).map fun vs => .out (.ret (oneOr vs)) S.H
          | none => none
      | d :: ds =>
        match d.mark with
        | some i =>
          match S.H.get i with
          | some (.defd false) => ih (.defs { S with D := ds, H := S.H.put i (.defd true) } p)
          | _ => none
        | none =>
          match d.fn with
          | .func g =>
            if ¬ enterable P g then none else
            match (fnX P tb g).f, (resX P tb g).f with
            | some (nt, ex), some rs =>
              bif Nat.ble (d.args ++ d.captured).length nt then
                match ex.f ⟨ih, g, none⟩ (startS nt (d.args ++ d.captured)) S.H { D := [], pan := p } with
                | some (.ret t H dq) =>
                  match dq.D with
                  | [] =>
                    match results P H (mkE nt P.globals.size t) rs with
                    | some _ => ih (.defs { S with D := ds, H := H } (match dq.pan with | some (_, true) => none | q => q))
                    | none => none
                  | _ => none
                | some (.jump .ret t H dq) =>
                  match dq.D with
                  | [] =>
                    match results P H (mkE nt P.globals.size t) rs with
                    | some _ => ih (.defs { S with D := ds, H := H } (match dq.pan with | some (_, true) => none | q => q))
                    | none => none
                  | _ => none
                | some (.panic v t H dq) =>
                  match dq.D, dq.pan with
                  | [], none => ih (.defs { S with D := ds, H := H } (some (v, false)))
                  | _, _ => none
                | _ => none
              else none
            | _, _ => none
          | _ => none
noncomputable def runF (P : Program) (tb : Tab) (n : Nat) : Task → Option Res := Nat.rec (fun _ => none) (fun _ ih t => stepF P tb ih t) n

section
variable {P : Program} {tb : Tab}

theorem fnX_spec (hT : TabOk P tb) {f nt : Nat} {ex : Bx Ex} (h : (fnX P tb f).f = some (nt, ex)) : ∃ fn c, P.funcs[f]? = some fn ∧ fn.body = some c ∧ nt = fn.ntmps ∧ ex = exX P tb nt P.globals.size maxDeep c := by
  unfold fnX at h
  split at h
  · rename_i fn hf
    split at h
    · rename_i c hb
      cases h
      exact ⟨fn, c, hT.fn f fn hf, hb, rfl, rfl⟩
    · cases h
  · cases h
theorem resX_spec (hT : TabOk P tb) {f : Nat} {rs : List ResultVar} (h : (resX P tb f).f = some rs) : ∃ fn, P.funcs[f]? = some fn ∧ rs = fn.results.toList := by
  unfold resX at h
  split at h
  · rename_i fn hf
    cases h
    exact ⟨fn, hT.fn f fn hf, rfl⟩
  · cases h
theorem start_eq {nt : Nat} {args : List LV} (h : Nat.ble args.length nt = true) : Env.start P nt args = mkE nt P.globals.size (startS nt args) := by
  have h1 := Nat.le_of_ble_eq_true h
  unfold startS
  rw [startT_eq]
  unfold Env.start
  have e : args.length + (nt - args.length) = nt := by omega
  rw [e]; rfl
theorem ret_end {fn : Nat} {E : Env} {H : LH} {D : List LDef} {pan : Option (LV × Bool)} : Kn P (.frame [] ⟨fn, E, H, D, none, pan⟩) (.fr (.ret ⟨fn, E, H, D, none, pan⟩)) := Kn.now fun rec => rfl
theorem ret_ret {fn : Nat} {E : Env} {H : LH} {D : List LDef} {pan : Option (LV × Bool)} : Kn P (.frame [.code .ret] ⟨fn, E, H, D, none, pan⟩) (.fr (.ret ⟨fn, E, H, D, none, pan⟩)) := Kn.now fun rec => rfl

theorem put_foldl : ∀ (l : List (Nat × LV)) (E : Env), (l.foldl (fun E (p : Nat × LV) => E.put p.1 p.2) E).n = E.n ∧ (l.foldl (fun E (p : Nat × LV) => E.put p.1 p.2) E).g = E.g
  | [], E => ⟨rfl, rfl⟩
  | p :: l, E => by
    simp only [List.foldl_cons]
    have := put_foldl l (E.put p.1 p.2)
    simpa using this

theorem runF_sound (hT : TabOk P tb) : ∀ (n : Nat) (t : Task) (r : Res), runF P tb n t = some r → Kn P t r
  | 0, t, r, h => by cases h
  | n + 1, t, r, h => by
    have ih := runF_sound hT n
    cases t with
    | frame K S => cases h
    | call f args H =>
      have h' : stepF P tb (runF P tb n) (.call f args H) = some r := h
      unfold stepF at h'
      simp only at h'
      split at h'
      · rename_i nt ex hfx
        obtain ⟨fn, c, hf, hb, rfl, rfl⟩ := fnX_spec hT hfx
        cases hle : Nat.ble args.length fn.ntmps with
        | false => rw [hle] at h'; cases h'
        | true =>
          rw [hle] at h'
          simp only [cond_true] at h'
          have hS : ({ fn := f, E := Env.start P fn.ntmps args, H, D := [], rnd := none, pan := none } : FS) = fsOf fn.ntmps P.globals.size f none (startS fn.ntmps args) H { D := [], pan := none } := by
            rw [start_eq hle]; rfl
          have enter : ∀ {S : FS}, Kn P (.frame [.code c] (fsOf fn.ntmps P.globals.size f none (startS fn.ntmps args) H { D := [], pan := none })) (.fr (.ret S)) → Kn P (.defs S none) r → Kn P (.call f args H) r := fun {S} h1 h2 => h1.of2 h2 fun rec r1 r2 => by
            simp only [runStep, hf, hb]
            rw [hS, r1]; exact r2
          have snd := fun x hx => exX_snd (P := P) (n := fn.ntmps) (G := P.globals.size) hT maxDeep c ⟨runF P tb n, f, none⟩ (startS fn.ntmps args) H { D := [], pan := none } x ih hx
          rw [startT_k] at h'
          have h' : endC P tb (runF P tb n) fn.ntmps f ((exX P tb fn.ntmps P.globals.size maxDeep c).f ⟨runF P tb n, f, none⟩ (startS fn.ntmps args) H { D := [], pan := none }) = some r := h'
          have rc : ∀ {t1 : Sl} {H1 : LH} {dp1 : DP}, retC P tb (runF P tb n) fn.ntmps f t1 H1 dp1 = some r → Kn P (.defs (fsOf fn.ntmps P.globals.size f none t1 H1 dp1) none) r := fun {t1 H1 dp1} hr => by
            unfold retC at hr
            split at hr
            · rename_i hD
              split at hr
              · rename_i rs hrs
                obtain ⟨fn', hf', rfl⟩ := resX_spec hT hrs
                rw [results_few _ _ (fun x hx => hx)] at hr
                exact Kn.now fun rec => by
                  simp only [runStep, fsOf, hD, hf']; exact hr
              · cases hr
            · exact ih _ _ hr
          unfold endC at h'
          split at h'
          · rename_i t1 H1 dp1 hx
            exact enter (snd _ hx [] _ ret_end) (rc h')
          · rename_i t1 H1 dp1 hx
            exact enter ((snd _ hx).2 [] _ ret_ret) (rc h')
          · rename_i v t1 H1 dp1 hx
            have h1 := snd _ hx []
            exact Kn.of2 h1 (ih _ _ h') fun rec r1 r2 => by
              simp only [runStep, hf, hb]
              rw [hS, r1]; exact r2
          · cases h'
      · cases h'
    | round l args H =>
      have h' : stepF P tb (runF P tb n) (.round l args H) = some r := h
      unfold stepF at h'
      simp only at h'
      split at h'
      · rename_i st0 pend0 fn env ps a b dn0 hget
        split at h'
        · cases h'
        · rename_i hlen
          split at h'
          · rename_i t1 H1 dp1 hx1
            split at h'
            · rename_i pend fn' env' ps' a' b' dn hget1
              have hE : fsOf env.n env.g fn (some l) (ofE ((ps.zip args).foldl (fun E (p : Nat × LV) => E.put p.1 p.2) env)) H { D := [], pan := none } = ({ fn, E := (ps.zip args).foldl (fun E (p : Nat × LV) => E.put p.1 p.2) env, H, D := [], rnd := some l, pan := none } : FS) := by
                obtain ⟨e1, e2⟩ := put_foldl (ps.zip args) env
                unfold fsOf mkE
                generalize (ps.zip args).foldl (fun E (p : Nat × LV) => E.put p.1 p.2) env = E at e1 e2 ⊢
                obtain ⟨en, eg, et⟩ := E
                simp only at e1 e2
                subst e1; subst e2; rfl
              have s1 : Leads P env.n env.g ⟨runF P tb n, fn, some l⟩ _ _ (.ret t1 H1 dp1) := exX_snd (P := P) hT maxDeep a ⟨runF P tb n, fn, some l⟩ _ H { D := [], pan := none } _ ih hx1
              have s2 := fun x hx => exX_snd (P := P) (n := env.n) (G := env.g) hT maxDeep b ⟨runF P tb n, fn, some l⟩ t1 (H1.put l (.loop .busy pend fn' env' ps' a' b' dn)) dp1 x ih hx
              have beg : ∀ r, Kn P (.frame [.code b] (fsOf env.n env.g fn (some l) t1 (H1.put l (.loop .busy pend fn' env' ps' a' b' dn)) dp1)) r → Kn P (.frame [.code a, .beginRound, .code b] ({ fn, E := (ps.zip args).foldl (fun E (p : Nat × LV) => E.put p.1 p.2) env, H, D := [], rnd := some l, pan := none } : FS)) r := fun r hk => by
                rw [← hE]
                refine s1 [.beginRound, .code b] r (hk.of fun rec hr => ?_)
                simp only [runStep, fsOf, hget1]
                exact hr
              have fin : ∀ (j : Option Code) (t2 : Sl) (H2 : LH) (dp2 : DP), Kn P (.frame [.code b] (fsOf env.n env.g fn (some l) t1 (H1.put l (.loop .busy pend fn' env' ps' a' b' dn)) dp1)) (.fr (.jump j (fsOf env.n env.g fn (some l) t2 H2 dp2))) →
                  (match dp2.D, H2.get l with
                  | [], some (.loop _ _ fn env ps a b dn) => some (.out (.ret (.bool j.isNone)) (H2.put l (.loop (if j.isNone then .ready else .done) j fn env ps a b dn)))
                  | _, _ => none) = some r → Kn P (.round l args H) r := fun j t2 H2 dp2 hk hr => (beg _ hk).of fun rec r1 => by
                simp only [runStep, hget]
                rw [if_neg hlen, r1]
                exact hr
              split at h'
              · rename_i j H2 dp2 hx2
                split at hx2
                · rename_i t2 H2' dp2' hx2'
                  cases hx2
                  exact fin none t2 H2 dp2 (s2 _ hx2' [] _ (Kn.now fun rec => rfl)) h'
                · rename_i t2 H2' dp2' hx2'
                  cases hx2
                  exact fin (some .ret) t2 H2 dp2 ((s2 _ hx2').2 [] _ (Kn.now fun rec => rfl)) h'
                · rename_i i t2 H2' dp2' hx2'
                  cases hx2
                  exact fin (some (.exit i)) t2 H2 dp2 ((s2 _ hx2').2 [] _ (Kn.now fun rec => rfl)) h'
                · cases hx2
              · cases h'
            · cases h'
          · cases h'
      · cases h'
    | defs S p =>
      have h' : stepF P tb (runF P tb n) (.defs S p) = some r := h
      unfold stepF at h'
      simp only at h'
      split at h'
      · rename_i hD
        split at h'
        · exact Kn.now fun rec => by simp only [runStep, hD]; exact h'
        · cases h'
        · split at h'
          · rename_i rs hrs
            obtain ⟨fn, hf, rfl⟩ := resX_spec hT hrs
            exact Kn.now fun rec => by simp only [runStep, hD, hf]; exact h'
          · cases h'
      · rename_i d ds hD
        split at h'
        · rename_i i hm
          split at h'
          · rename_i hg
            exact (ih _ _ h').of fun rec hr => by simp only [runStep, hD, hm, hg]; exact hr
          · cases h'
        · rename_i hm
          split at h'
          · rename_i g hg
            split at h'
            · cases h'
            · rename_i hen
              split at h'
              · rename_i nt ex rs hfx hrs
                obtain ⟨fn, c, hf, hb, rfl, rfl⟩ := fnX_spec hT hfx
                obtain ⟨fn', hf', rfl⟩ := resX_spec hT hrs
                rw [hf] at hf'; cases hf'
                cases hle : Nat.ble (d.args ++ d.captured).length fn.ntmps with
                | false => rw [hle] at h'; cases h'
                | true =>
                  rw [hle] at h'
                  simp only [cond_true] at h'
                  have hS : ({ fn := g, E := Env.start P fn.ntmps (d.args ++ d.captured), H := S.H, D := [], rnd := none, pan := p } : FS) = fsOf fn.ntmps P.globals.size g none (startS fn.ntmps (d.args ++ d.captured)) S.H { D := [], pan := p } := by
                    rw [start_eq hle]; rfl
                  have snd := fun x hx => exX_snd (P := P) (n := fn.ntmps) (G := P.globals.size) hT maxDeep c ⟨runF P tb n, g, none⟩ (startS fn.ntmps (d.args ++ d.captured)) S.H { D := [], pan := p } x ih hx
                  have back : ∀ {t2 : Sl} {H2 : LH} {dq : DP}, Kn P (.frame [.code c] (fsOf fn.ntmps P.globals.size g none (startS fn.ntmps (d.args ++ d.captured)) S.H { D := [], pan := p })) (.fr (.ret (fsOf fn.ntmps P.globals.size g none t2 H2 dq))) →
                      (match dq.D with
                      | [] =>
                        match results P H2 (mkE fn.ntmps P.globals.size t2) fn.results.toList with
                        | some _ => runF P tb n (.defs { S with D := ds, H := H2 } (match dq.pan with | some (_, true) => none | q => q))
                        | none => none
                      | _ => none) = some r → Kn P (.defs S p) r := fun {t2 H2 dq} h1 h2 => by
                    split at h2
                    · rename_i hdq
                      split at h2
                      · rename_i vs hvs
                        refine h1.of2 (ih _ _ h2) fun rec r1 r2 => ?_
                        simp only [runStep, hD, hm, hg]
                        rw [if_neg hen]
                        simp only [hf, hb]
                        rw [hS, r1]
                        simp only [fsOf, hdq]
                        rw [hvs]
                        exact r2
                      · cases h2
                    · cases h2
                  split at h'
                  · rename_i t2 H2 dq hx
                    exact back (snd _ hx [] _ ret_end) h'
                  · rename_i t2 H2 dq hx
                    exact back ((snd _ hx).2 [] _ ret_ret) h'
                  · rename_i v t2 H2 dq hx
                    have h1 := snd _ hx []
                    split at h'
                    · rename_i e1 e2
                      refine Kn.of2 h1 (ih _ _ h') fun rec r1 r2 => ?_
                      simp only [runStep, hD, hm, hg]
                      rw [if_neg hen]
                      simp only [hf, hb]
                      rw [hS, r1]
                      simp only [fsOf, e1, e2]
                      exact r2
                    · cases h'
                  · cases h'
              · cases h'
          · cases h'

/-- A law's call by the fast form. -/
theorem fast_ok (hT : TabOk P tb) {n f : Nat} {args : List LV} {H : LH} (h : okB (runF P tb n (.call f args H)) = true) : ∃ m, okB (run P m (.call f args H)) = true := by
  obtain ⟨H', hr⟩ := okB_spec h
  obtain ⟨m, hm⟩ := runF_sound hT n _ _ hr
  exact ⟨m, by rw [hm]; rfl⟩
end
end Go.Lv
